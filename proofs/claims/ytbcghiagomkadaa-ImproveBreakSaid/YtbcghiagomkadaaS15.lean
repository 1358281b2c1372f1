/- Own texts of the proof, merged, in order. -/
import Derived.Test.YtbcghiagomkadaaS14
set_option linter.unusedVariables false
set_option linter.unusedSimpArgs false
namespace Go.Proofs.Ytbcghiagomkadaa.Cal
open Go
/-- A function that yields numbers with lists, with what it captured (c, no memory of anybody's own): key 1 whatever else; go: there is a round to come; L: the lists that may come with it; nx: what it leads to; X: a round left the loop. -/
def IterU (P : Program) (gf : Nat) (c : AV) {τ : Type} (I X : τ → Prop) (hd : τ → Int) (L : τ → List Int → Prop) (go : τ → Prop) (nx : τ → τ → Prop) (st fin : τ → Prop) : Prop :=
  ∀ (A : Bool → τ → SemA)
    (hY : ∀ t li, I t → go t → L t li → YCall P [.int .i64 (hd t), .roI li] [(1, some (.sem [0] (A true t)))] 2
      (fun g => ∃ b t', (b = true → I t' ∧ nx t t') ∧ (b = false → X t') ∧ g = ⟨2, .bool b, [(1, some (.sem [0] (A b t')))]⟩))
    (t0 : τ) (h0 : I t0) (hi0 : st t0),
    FG P gf [.yld 0, c] [(1, some (.sem [0] (A true t0)))] 2
      (fun g => ∃ b t', (b = true → I t' ∧ fin t') ∧ (b = false → X t') ∧ g = ⟨2, resV [], [(1, some (.sem [0] (A b t')))]⟩)
section
variable {P : Program} {ro : Option Nat} {N κ : Nat} {tb : Nat → Option TI}
/-- One round, as yield's contract. -/
theorem round_yieldsU {τ : Type} {I X : τ → Prop} {hd : τ → Int} {go : τ → Prop} {nx : τ → τ → Prop} {lv : Lv} {S : τ → List (Nat × Option Blk)} {M m p p2 fn lp D : Nat} {li : List Int} {L : τ → List Int → Prop} {env : List (Nat × AV)} {assign body : Code} {w : World} {Z : Nat → Prop} {ν : Nat → Value} {a : Act} {rc : Loop}
    (hrc : rc = { state := .ready, pending := none, fn, tmps := a.tmps, params := #[p, p2], assign, body, defers := D }) (hp : p < N) (hp2 : p2 < N) (hsz : a.tmps.size = N) (hmM : m ≤ M) (hlD : lp ≠ D)
    (henv : ∀ s, men (ltK m) (lke env s) = true ∧ R Z w (lke env s) ν true [a.tmps.getD s undef])
    (hS : ∀ t k b, I t ∨ X t → lkr (S t) k = some b → k < M ∧ menB (ltK M) b)
    (round : ∀ t li, I t → go t → L t li → awp P (some lp) N m assign (CS.st ⟨M, (p2, .roI li) :: (p, .int .i64 (hd t)) :: env, S t, []⟩) (fun e s => e = .normal ∧ awp P (some lp) N m body s (roundV m I X nx lv S M t)))
    (t : τ) (ht : I t) (hi : go t) (hli : L t li) :
    YCall P [.int .i64 (hd t), .roI li] [(1, some (.sem [0] (ASemV w Z ν m lp D (rcEnd rc lv true) (S t))))] 2
      (fun g => ∃ b t', (b = true → I t' ∧ nx t t') ∧ (b = false → X t') ∧ g = ⟨2, .bool b, [(1, some (.sem [0] (ASemV w Z ν m lp D (rcEnd rc lv b) (S t'))))]⟩) := by
  intro n K1 Z1 ν1 w1 vals l hone hvals hG hzk hkl hl
  obtain ⟨F1, hF1⟩ := hG
  obtain ⟨_, _, s1, s2, s3⟩ := hF1 1 (.sem [0] (ASemV w Z ν m lp D (rcEnd rc lv true) (S t))) rfl
  obtain ⟨a1, a2, a3, a4, a5, a6, ν', G, a7, a8, a9⟩ := ASemV_of s1
  have e0 : ν1 0 = .map (some lp) := by injection a1
  obtain rfl : l = lp := by rw [hl] at e0; injection e0 with h; injection h
  obtain ⟨v, vs, hvv, r1, v2, vs2, hvs, r2, r3⟩ := hvals
  have r1 := one1 r1
  have r3 : vs2 = [] := r3
  subst r1 r3 hvs
  have hvals2 : vals = #[.int .i64 (hd t), v2] := by rw [← Array.toList_inj, hvv]
  subst hrc
  have a5 : w1.heap[l]? = some (.loop { state := .ready, pending := none, fn := fn, tmps := a.tmps, params := #[p, p2], assign := assign, body := body, defers := D }) := a5
  have hy := run_yield (P := P) (args := vals) a5 (by rw [hvals2]; rfl)
  have htm : ∀ (T : Array Value) (v : Value), ((#[p, p2] : Array Tmp).zip #[v, v2]).foldl (fun tmps (x : Tmp × Value) => tmps.setIfInBounds x.1 x.2) T = (T.setIfInBounds p v).setIfInBounds p2 v2 := fun T v => by simp
  refine ⟨_, _, _, _, hy, roundIn_of_wpIn trivial ?_⟩
  have htm2 := htm a.tmps (.int .i64 (hd t))
  rw [← hvals2] at htm2
  have hlz : ¬ Z1 l := fun h => (s2 l a3).1 (hzk l h)
  have hDz : ¬ Z1 D := fun h => (s2 D a4).1 (hzk D h)
  -- the round's own view
  have hgood : Good (fun b => K1 b ∨ b = l ∨ b = D) Z1 N w1 ν' (CS.st ⟨M, (p2, .roI li) :: (p, .int .i64 (hd t)) :: env, S t, []⟩) { tmps := (a.tmps.setIfInBounds p (.int .i64 (hd t))).setIfInBounds p2 v2, defers := [] } := by
    have hνm : ∀ k, ltK m k = true → ν' k = ν k := fun k hk => by
      rw [ltK, Nat.blt_eq] at hk
      exact a8 k hk
    refine ⟨by simp [hsz], a7, fun s => ?_, ?_, fun b hb => .inl (hzk b hb), fun b hb => ?_, rfl, fun k hk => by cases hk⟩
    · show men (ltK M) (lke ((p2, _) :: (p, _) :: env) s) = true ∧ R Z1 w1 (lke ((p2, _) :: (p, _) :: env) s) _ true _
      rw [Zdf]
      by_cases hs2 : s = p2
      · subst hs2
        simp only [if_true]
        refine ⟨rfl, ?_⟩
        have : ((a.tmps.setIfInBounds p (.int .i64 (hd t))).setIfInBounds s v2).getD s undef = v2 := by
          simp [Array.getD_eq_getD_getElem?, hsz, hp2]
        show R Z1 w1 _ _ true [((a.tmps.setIfInBounds p (.int .i64 (hd t))).setIfInBounds s v2).getD s undef]
        rw [this]
        exact Zcl rfl r2
      rw [if_neg hs2, Zdf]
      have e2 : ((a.tmps.setIfInBounds p (.int .i64 (hd t))).setIfInBounds p2 v2).getD s undef = (a.tmps.setIfInBounds p (.int .i64 (hd t))).getD s undef := by
        simp [Array.getD_eq_getD_getElem?, Array.getElem?_setIfInBounds, Ne.symm hs2]
      by_cases hs : s = p
      · subst hs
        simp only [if_true]
        refine ⟨rfl, ?_⟩
        show [((a.tmps.setIfInBounds s (.int .i64 (hd t))).setIfInBounds p2 v2).getD s undef] = [_]
        rw [e2]
        simp [Array.getD_eq_getD_getElem?, hsz, hp]
      · simp only [if_neg hs]
        obtain ⟨g1, g2⟩ := henv s
        refine ⟨Zc2 (fun k hk => by simp only [ltK, Nat.blt_eq] at hk ⊢; omega) g1, ?_⟩
        have : (a.tmps.setIfInBounds p (.int .i64 (hd t))).getD s undef = a.tmps.getD s undef := by
          simp [Array.getD_eq_getD_getElem?, Array.getElem?_setIfInBounds, Ne.symm hs]
        show R Z1 w1 (lke env s) _ true [((a.tmps.setIfInBounds p (.int .i64 (hd t))).setIfInBounds p2 v2).getD s undef]
        rw [e2, this]
        exact R_nu hνm g1 (Zbk (fun y hy => (a2 y hy).1) (fun y hy => (a2 y hy).2) g2)
    · refine ⟨G, fun k b hk => ?_⟩
      obtain ⟨b1, b2⟩ := hS t k b (.inl ht) hk
      obtain ⟨c1, c2, c3⟩ := a9 k b hk
      refine ⟨by show Nat.blt k M = true; rw [Nat.blt_eq]; exact b1, b2, c1, fun x hx => ?_, fun k' b' hne hk' => c3 k' b' hne hk'⟩
      obtain ⟨d1, d2, d3⟩ := c2 x hx
      obtain ⟨f1, f2⟩ := s2 x d1
      exact ⟨fun h => h.elim f1 fun h => h.elim d2 d3, f2⟩
    · rcases hb with h | rfl | rfl
      · exact hkl b h
      · exact (Array.getElem?_eq_some_iff.1 a5).1
      · exact (Array.getElem?_eq_some_iff.1 a6).1
  have hasg := round t li ht hi hli n _ Z1 _ w1 _ hgood
  have hasg2 : assign.wpIn ((FF none).inRound l) n P _ { tmps := (a.tmps.setIfInBounds p (.int .i64 (hd t))).setIfInBounds p2 v2, defers := [] } w1 := hasg
  rw [← htm2] at hasg2
  refine wpIn_mono hasg2 ?_
  rintro e a2' w2 ⟨Z2, ν2, σ2, st2, nu2, good2, rfl, hbody⟩
  -- the round begins
  have hl2 : w2.heap[l]? = _ := (st2.ext.block l (.inr (.inl rfl))).trans a5
  have hZl : ∀ {Zx : Nat → Prop} {wx : World}, Step (fun b => K1 b ∨ b = l ∨ b = D) Z1 w1 Zx wx → ¬ Zx l ∧ ¬ Zx D := fun h =>
    ⟨fun hz => (h.new l hz).elim hlz fun h => h (.inr (.inl rfl)), fun hz => (h.new D hz).elim hDz fun h => h (.inr (.inr rfl))⟩
  refine ⟨_, run_beginRound hl2 rfl, ?_⟩
  have good3 := good2.put (r := l) (o := .loop { state := .busy, pending := none, fn := fn, tmps := a.tmps, params := #[p, p2], assign := assign, body := body, defers := D }) (.inl (.inr (.inl rfl))) (hZl st2).1
  have hb := hbody n _ _ _ _ _ good3
  refine wpIn_mono (show body.wpIn ((FF none).inRound l) n P _ a2' _ from hb) ?_
  rintro e a3' w3 ⟨Z3, ν3, σ3, st3, nu3, good4, cs, t', ρ, rfl, hle, hfate⟩
  have hKl : ∀ b, (K1 b ∨ b = l ∨ b = D) → un (fun b => K1 b ∨ b = l ∨ b = D) Z2 b := fun b h => .inl h
  have hl3 : w3.heap[l]? = some (.loop { state := .busy, pending := none, fn := fn, tmps := a.tmps, params := #[p, p2], assign := assign, body := body, defers := D }) :=
    (st3.ext.block l (hKl l (.inr (.inl rfl)))).trans (World.putObj_heap_same (Array.getElem?_eq_some_iff.1 hl2).1)
  have hD3 : w3.heap[D]? = some (.deferred (some [])) :=
    (st3.ext.block D (hKl D (.inr (.inr rfl)))).trans ((World.putObj_heap_other (Ne.symm hlD)).trans ((st2.ext.block D (.inr (.inr rfl))).trans a6))
  -- which end
  obtain ⟨bb, hbb⟩ : ∃ bb : Bool, (bb = true → e = .normal ∧ I t' ∧ nx t t') ∧ (bb = false → e = lv.e ∧ X t') := by
    rcases hfate with h | h
    · exact ⟨true, (fun _ => h), fun h => by cases h⟩
    · exact ⟨false, (fun h => by cases h), fun _ => h⟩
  have hIX : I t' ∨ X t' := by
    rcases hfate with h | h
    · exact .inl h.2.1
    · exact .inr h.2
  suffices hres : ∀ (o : Loop), o = rcEnd { state := .ready, pending := none, fn := fn, tmps := a.tmps, params := #[p, p2], assign := assign, body := body, defers := D } lv bb →
      ∃ (y : Value) (Z' : Nat → Prop) (νr : Nat → Value) (g : GR), Ending.returned (Value.bool bb) = .returned y ∧ Step K1 Z1 w1 Z' (w3.putObj l (.loop o)) ∧ (∀ k, (νr k).oneCell' = true) ∧ (∀ k, k < 2 → νr k = ν1 k) ∧ R Z' (w3.putObj l (.loop o)) g.val νr true [y] ∧ men (ltK g.m) g.val = true ∧ GoodRs (un K1 Z') Z' (w3.putObj l (.loop o)) νr (ltK g.m) (lkr g.rs) ∧ (∀ b, Z' b → b < (w3.putObj l (.loop o)).heap.size) ∧
        (∃ b t'', (b = true → I t'' ∧ nx t t'') ∧ (b = false → X t'') ∧ g = ⟨2, .bool b, [(1, some (.sem [0] (ASemV w Z ν m l D (rcEnd { state := .ready, pending := none, fn := fn, tmps := a.tmps, params := #[p, p2], assign := assign, body := body, defers := D } lv b) (S t''))))]⟩) ∧ 2 ≤ g.m by
    cases bb with
    | true =>
      obtain ⟨rfl, hI, hN⟩ := hbb.1 rfl
      exact ⟨_, _, run_endRound none hl3, hres _ rfl⟩
    | false =>
      obtain ⟨rfl, hX⟩ := hbb.2 rfl
      cases lv with
      | ret => exact ⟨_, _, run_endRound (some .ret) hl3, hres _ rfl⟩
      | exit id => exact ⟨_, _, run_endRound (some (.exit id)) hl3, hres _ rfl⟩
  intro o ho
  have hle2 := Good.le good4 (Zhs ρ hle.chk hle.env hle.rs)
  obtain ⟨H, hH⟩ := hle2.rs
  have hid := (Zhs ρ hle.chk hle.env hle.rs).id
  -- the step from the round's begin to its end
  have hK1 : ∀ b, K1 b → b ≠ l ∧ b ≠ D := fun b hb => ⟨fun e => (s2 l a3).1 (e ▸ hb), fun e => (s2 D a4).1 (e ▸ hb)⟩
  have hstep : Step K1 Z1 w1 Z3 (w3.putObj l (.loop o)) := by
    refine ⟨⟨st3.ext.os.trans st2.ext.os, st3.ext.tape.trans st2.ext.tape, st3.ext.output.trans st2.ext.output, ?_, fun b hb => ?_⟩, fun b hb => st3.le b (st2.le b hb), fun b hb => ?_⟩
    · have h1 := st2.ext.size
      have h2 := st3.ext.size
      rw [World.putObj_size] at h2 ⊢
      omega
    · exact (World.putObj_heap_other (hK1 b hb).1).trans ((st3.ext.block b (hKl b (.inl hb))).trans ((World.putObj_heap_other (hK1 b hb).1).trans (st2.ext.block b (.inl hb))))
    · rcases st3.new b hb with h | h
      · rcases st2.new b h with h | h
        · exact .inl h
        · exact .inr fun hk => h (.inl hk)
      · exact .inr fun hk => h (.inl (.inl hk))
  have hz3 : ¬ Z3 l ∧ ¬ Z3 D := by
    refine ⟨fun h => ?_, fun h => ?_⟩
    · rcases st3.new l h with h | h
      · exact (hZl st2).1 h
      · exact h (hKl l (.inr (.inl rfl)))
    · rcases st3.new D h with h | h
      · exact (hZl st2).2 h
      · exact h (hKl D (.inr (.inr rfl)))
  have n5 : ∀ k, k < m → ν3 (rhoL ρ k) = ν k := fun k hk => by
    rw [hid k hk, nu3 k hk, nu2 k hk]
    exact a8 k hk
  have hout : ∀ k b, lkr (S t') k = some b → ∀ x, H k x → ¬ un K1 Z3 x ∧ x < w3.heap.size ∧ x ≠ l ∧ x ≠ D := fun k b hk x hx => by
    obtain ⟨_, _, _, h2, _⟩ := hH k b hk
    obtain ⟨h3, h4⟩ := h2 x hx
    refine ⟨fun h => h3 ?_, h4, fun e => h3 ?_, fun e => h3 ?_⟩
    · rcases h with h | h
      · exact .inl (hKl x (.inl h))
      · exact .inr h
    · exact .inl (hKl x (.inr (.inl e)))
    · exact .inl (hKl x (.inr (.inr e)))
  have hput : ∀ x, x ≠ l → (w3.putObj l (.loop o)).heap[x]? = w3.heap[x]? := fun x hx => World.putObj_heap_other hx
  have hZput : ∀ x, Z3 x → (w3.putObj l (.loop o)).heap[x]? = w3.heap[x]? := fun x hx => hput x (fun e => hz3.1 (e ▸ hx))
  have hlt3 : l < w3.heap.size := (Array.getElem?_eq_some_iff.1 hl3).1
  have hDt3 : D < w3.heap.size := (Array.getElem?_eq_some_iff.1 hD3).1
  refine ⟨.bool bb, Z3, fun k => if k < 2 then ν1 k else .nilFunc, ⟨2, .bool bb, [(1, some (.sem [0] (ASemV w Z ν m l D (rcEnd _ lv bb) (S t'))))]⟩, rfl, hstep, fun k => ?_, fun k hk => if_pos hk, rfl, rfl, ?_, fun b hb => ?_, ⟨bb, t', fun h => (hbb.1 h).2, fun h => (hbb.2 h).2, rfl⟩, Nat.le_refl _⟩
  · dsimp only
    split
    · exact hone k
    · rfl
  · refine ⟨fun k => fun x => x = l ∨ x = D ∨ ∃ k b, lkr (S t') k = some b ∧ H k x, fun k b hk => ?_⟩
    have hc : k = 1 ∧ b = .sem [0] (ASemV w Z ν m l D (rcEnd { state := .ready, pending := none, fn := fn, tmps := a.tmps, params := #[p, p2], assign := assign, body := body, defers := D } lv bb) (S t')) := by
      rw [Zax] at hk
      by_cases h1 : k = 1
      · rw [if_pos h1] at hk; exact ⟨h1, (Option.some.inj hk).symm⟩
      · rw [if_neg h1] at hk; cases hk
    obtain ⟨rfl, rfl⟩ := hc
    have hlD1 : (¬ un K1 Z3 l ∧ l < w3.heap.size) ∧ (¬ un K1 Z3 D ∧ D < w3.heap.size) := by
      refine ⟨⟨?_, hlt3⟩, ⟨?_, hDt3⟩⟩
      · rintro (h | h)
        · exact (hK1 l h).1 rfl
        · exact hz3.1 h
      · rintro (h | h)
        · exact (hK1 D h).2 rfl
        · exact hz3.2 h
    refine ⟨rfl, ?_, ?_, fun x hx => ?_, fun k' b' hne hk' x hx hx' => ?_⟩
    · intro j hj
      simp only [List.mem_cons, List.not_mem_nil, or_false] at hj
      rw [hj]; rfl
    · refine sat_ASemV (νc := fun k => if k < 2 then ν1 k else .nilFunc) ⟨?_, fun y hy => ⟨?_, ?_⟩, .inl rfl, .inr (.inl rfl), ?_, (hput D (Ne.symm hlD)).trans hD3, fun k => ν3 (rhoL ρ k), H, hle2.one, n5, fun k b hk => ?_⟩
      · show [ν1 0] = _
        exact a1
      · exact hstep.le y (a2 y hy).1
      · exact (hstep.ext.block y (hzk y (a2 y hy).1)).trans (a2 y hy).2
      · rw [← ho]; exact World.putObj_heap_same hlt3
      · obtain ⟨_, _, g1, g2, g3⟩ := hH k b hk
        exact ⟨Zbo (fun _ h => h) hZput (fun x hx => hput x (hout k b hk x hx).2.2.1) g1, fun x hx => ⟨.inr (.inr ⟨k, b, hk, hx⟩), (hout k b hk x hx).2.2⟩, fun k' b' hne hk' => g3 k' b' hne hk'⟩
    · rw [World.putObj_size]
      rcases hx with rfl | rfl | ⟨k2, b2, h2, h⟩
      · exact hlD1.1
      · exact hlD1.2
      · exact ⟨(hout k2 b2 h2 x h).1, (hout k2 b2 h2 x h).2.1⟩
    · rw [Zax] at hk'
      by_cases h1 : k' = 1
      · exact hne h1.symm
      · rw [if_neg h1] at hk'; cases hk'
  · rw [World.putObj_size]
    exact hle2.kl b (hle2.zk b hb)
/-- The loop over a function that hands out numbers. -/
theorem awp_rangeU {gOp : Operand} {p p2 gf m M : Nat} {c : AV} {assign body : Code} {env : List (Nat × AV)} {Q : Exit → St → Prop} {τ : Type} (I X : τ → Prop) (hd : τ → Int) (L : τ → List Int → Prop) (go : τ → Prop) (nx : τ → τ → Prop) (st fin : τ → Prop) (lv : Lv) (S : τ → List (Nat × Option Blk)) (ms : List Nat) (t0 : τ)
    (hIter : IterU P gf c I X hd L go nx st fin) (h0 : I t0) (hi0 : st t0) (hu : men noK c = true)
    (hgo : opv (lke env) gOp = .fn gf (.cons c .nil)) (hp : Nat.blt p N = true) (hp2 : Nat.blt p2 N = true) (hmM : Nat.ble m M = true) (hκ : Nat.ble κ m = true) (hmen : menE m env = true) (hms : ∀ k, k ∈ ms → Nat.blt k m = true)
    (hS : ∀ t k b, I t ∨ X t → lkr (S t) k = some b → k < M ∧ menB (ltK M) b)
    (round : ∀ lp t li, I t → go t → L t li → awp P (some lp) N m assign (CS.st ⟨M, (p2, .roI li) :: (p, .int .i64 (hd t)) :: env, S t, []⟩) (fun e s => e = .normal ∧ awp P (some lp) N m body s (roundV m I X nx lv S M t)))
    (next : ∀ t, I t → fin t → Q .normal (CS.st ⟨M + 1, env, (M, some .dfr) :: S t, M :: ms⟩))
    (left : ∀ t, X t → Q lv.e (CS.st ⟨M + 1, env, (M, some .dfr) :: S t, M :: ms⟩)) :
    awp P none N κ (.rangeFunc gOp #[p, p2] assign body) (CS.st ⟨M, env, S t0, ms⟩) Q := by
  rw [Nat.blt_eq] at hp hp2
  have hmM := Nat.le_of_ble_eq_true hmM
  have hκ := Nat.le_of_ble_eq_true hκ
  intro n K Z ν w a hg
  refine wpIn_rangeFunc ?_
  intro fn _
  obtain ⟨rc, hrc⟩ : ∃ rc : Loop, rc = { state := .ready, pending := none, fn, tmps := a.tmps, params := #[p, p2], assign, body, defers := w.heap.size } := ⟨_, rfl⟩
  obtain ⟨W1, hW1⟩ : ∃ W1, (w.alloc (.deferred (some []))).alloc (.loop rc) = W1 := ⟨_, rfl⟩
  have hs1 : W1.heap.size = w.heap.size + 2 := by rw [← hW1, World.size_alloc, World.size_alloc]
  have hL1 : W1.heap[w.heap.size + 1]? = some (.loop rc) := by
    rw [← hW1]; have := World.alloc_heap_new (w.alloc (.deferred (some []))) (.loop rc); rwa [World.size_alloc] at this
  have hD1 : W1.heap[w.heap.size]? = some (.deferred (some [])) := by
    rw [← hW1]; exact (Zd9 _ _ _ (by rw [World.size_alloc]; omega)).trans (World.alloc_heap_new w _)
  have hold : ∀ b, b < w.heap.size → W1.heap[b]? = w.heap[b]? := fun b hb => by
    rw [← hW1]; exact (Zd9 _ _ _ (by rw [World.size_alloc]; omega)).trans (Zd9 _ _ _ hb)
  have hos : W1.os = w.os ∧ W1.tape = w.tape ∧ W1.output = w.output := by rw [← hW1]; exact ⟨rfl, rfl, rfl⟩
  have hev := Zg5 hg gOp
  rw [show opv (CS.st ⟨M, env, S t0, ms⟩).env gOp = _ from hgo] at hev
  obtain ⟨cv, ecv, rcv⟩ := hev
  have ecv := one1 ecv
  obtain ⟨vb, vs, hcv, rb, rn⟩ := rcv
  have rn : vs = [] := rn
  subst rn hcv
  have henv : ∀ s, men (ltK m) (lke env s) = true ∧ R Z w (lke env s) ν true [a.tmps.getD s undef] := fun s => ⟨menE_lke hmen s, (hg.env s).2⟩
  have hds : a.defers = ms.flatMap (fun k => markOf (ν k)) := hg.ds
  have hFG := hIter (fun b t => ASemV w Z ν m (w.heap.size + 1) w.heap.size (rcEnd rc lv b) (S t))
    (fun t li ht hi hli => round_yieldsU hrc hp hp2 hg.size (by omega) (by omega) henv (fun t k b ht hk => hS t k b ht hk) (fun t li ht hi hl => round _ t li ht hi hl) t ht hi hli) t0 h0 hi0
  obtain ⟨⟨fn', hfn', hname, hbody⟩, hcall⟩ := hFG
  have eg : ∀ args w, (callFunc gf args).run P w = .ok (.enter gf args) w := by
    intro args w
    simp [callFunc, hfn', Sem.run_bind, Result.andThen, Sem.run, program]
    have hname' : ¬ fn'.name = "runtime.NumGoroutine" := by simpa using hname
    cases hb : fn'.body with
    | none => rw [hb] at hbody; cases hbody
    | some c => simp [hname', hb, Sem.run]
  obtain ⟨Ft, hF⟩ := id hg.rs
  have hKz : ∀ b, Z b → b < w.heap.size := fun b hb => hg.kl b (hg.zk b hb)
  have hsat : ∀ k b, lkr (S t0) k = some b → sat Z W1 ν (ν k) (Ft k) b := fun k b hk => by
    obtain ⟨_, _, h3, h4, _⟩ := hF k b hk
    exact Zbo (fun _ h => h) (fun x hx => hold x (hKz x hx)) (fun x hx => hold x (h4 x hx).2) h3
  have hdis : ∀ x, ∀ k b, lkr (S t0) k = some b → Ft k x → ¬ K x ∧ x < w.heap.size := fun x k b hk hx => (hF k b hk).2.2.2.1 x hx
  have hcl := hcall K Z (fun j => if j = 0 then .map (some (w.heap.size + 1)) else .nilFunc) W1 #[.func (.yield (w.heap.size + 1)) #[] #[], vb]
    (fun k => by
      split <;> rfl)
    ⟨_, _, rfl, ⟨w.heap.size + 1, rfl, rfl⟩, _, _, rfl, Zcl hu (Zbk (fun _ h => h) (fun y hy => hold y (hKz y hy)) rb), rfl⟩ (by show (men (ltK 2) (.yld 0) && (men (ltK 2) c && men (ltK 2) .nil)) = true; rw [Zbr hu]; rfl)
    (by
      refine ⟨fun k => fun x => x = w.heap.size + 1 ∨ x = w.heap.size ∨ ∃ k b, lkr (S t0) k = some b ∧ Ft k x, fun k b hk => ?_⟩
      obtain ⟨rfl, rfl⟩ := cases1 hk
      refine ⟨rfl, ?_, ?_, fun x hx => ?_, fun k' b' hne hk' x hx hx' => hne (cases1 hk').1.symm⟩
      · intro j hj
        rw [List.mem_singleton.1 hj]; rfl
      · refine sat_ASemV (νc := fun j => if j = 0 then .map (some (w.heap.size + 1)) else .nilFunc) ⟨rfl, fun y hy => ⟨hy, hold y (hKz y hy)⟩, .inl rfl, .inr (.inl rfl), hL1, hD1, ν, Ft, hg.one, fun _ _ => rfl, fun k b hk => ?_⟩
        refine ⟨hsat k b hk, fun x hx => ⟨.inr (.inr ⟨k, b, hk, hx⟩), ?_, ?_⟩, fun k' b' hne hk' => (hF k b hk).2.2.2.2 k' b' hne hk'⟩
        · have := (hdis x k b hk hx).2; omega
        · have := (hdis x k b hk hx).2; omega
      · have hKs : ∀ x, K x → x < w.heap.size := hg.kl
        rcases hx with h | h | ⟨k2, b2, h2, h⟩
        · exact ⟨fun hk => by have := hKs x hk; omega, by omega⟩
        · exact ⟨fun hk => by have := hKs x hk; omega, by omega⟩
        · exact ⟨(hdis x _ _ h2 h).1, by have := (hdis x _ _ h2 h).2; omega⟩)
    hg.zk (fun b hb => by rw [hs1]; have := hg.kl b hb; omega)
  refine ⟨w.heap.size + 1, [{ target := .collected w.heap.size, args := #[] }], W1, { target := .fn (.func gf) [vb].toArray, args := #[.func (.yield (w.heap.size + 1)) #[] #[]] }, W1, gf, #[.func (.yield (w.heap.size + 1)) #[] #[]] ++ [vb].toArray, W1, ?_, ?_, ?_, ?_, (fun h => by cases h), ?_⟩
  · rw [← hW1, hrc]; exact run_enterLoop_outer _ _ _ _ _
  · simp only [resolve, ecv]
    simp [go_sem]
  · intro f' _; exact trivial
  · simp [invoke, go_sem, eg]
  refine CallsIn.mono (Zcp hcl) ?_
  rintro e W' ⟨y, Z', ν', v, μ', rs', rfl, hst, h1', hν, _, hr', hm', ⟨Fn, hFn⟩, hz, g, ⟨bb, t', hbt, hbf, rfl⟩, rfl, rfl, _, rfl⟩
  obtain ⟨_, _, s1, s2, s3⟩ := hFn 1 (.sem [0] (ASemV w Z ν m (w.heap.size + 1) w.heap.size (rcEnd rc lv bb) (S t'))) rfl
  obtain ⟨a1, a2, a3, a4, a5, a6, νA, G, a7, a8, a9⟩ := ASemV_of s1
  have hIX : I t' ∨ X t' := by
    cases bb with
    | true => exact .inl (hbt rfl).1
    | false => exact .inr (hbf rfl)
  have hDz : ¬ Z' w.heap.size := fun h => (s2 _ a4).1 (.inr h)
  have hlz : ¬ Z' (w.heap.size + 1) := fun h => (s2 _ a3).1 (.inr h)
  have hput : ∀ x, x ≠ w.heap.size + 1 → (W'.putObj (w.heap.size + 1) (.loop { rcEnd rc lv bb with state := .exhausted })).heap[x]? = W'.heap[x]? := fun x hx => World.putObj_heap_other hx
  have hZput : ∀ x, Z' x → (W'.putObj (w.heap.size + 1) (.loop { rcEnd rc lv bb with state := .exhausted })).heap[x]? = W'.heap[x]? := fun x hx => hput x (fun e => hlz (e ▸ hx))
  have hend := run_endLoop (P := P) a5 (by
    cases bb with
    | true => show rc.state ≠ _; rw [hrc]; intro h; cases h
    | false => intro h; cases h)
  have hstep : Step K Z w Z' (W'.putObj (w.heap.size + 1) (.loop { rcEnd rc lv bb with state := .exhausted })) := by
    refine ⟨⟨hst.ext.os.trans hos.1, hst.ext.tape.trans hos.2.1, hst.ext.output.trans hos.2.2, ?_, fun b hb => ?_⟩, hst.le, hst.new⟩
    · have := hst.ext.size; rw [World.putObj_size]; omega
    · have := hg.kl b hb
      exact (hput b (by omega)).trans ((hst.ext.block b hb).trans (hold b this))
  -- the state behind the loop
  have hkey : ∀ e, Q e (CS.st ⟨M + 1, env, (M, some .dfr) :: S t', M :: ms⟩) → Post N κ K Z w ν Q e { a with defers := [{ target := .collected w.heap.size, args := #[] }] ++ a.defers } (W'.putObj (w.heap.size + 1) (.loop { rcEnd rc lv bb with state := .exhausted })) := by
    intro e hq
    refine ⟨Z', fun k => if k = M then markV [w.heap.size] else νA k, _, hstep, fun k hk => ?_, ?_, hq⟩
    · dsimp only
      rw [if_neg (by omega)]; exact a8 k (by omega)
    have hνm : ∀ k, ltK m k = true → (if k = M then markV [w.heap.size] else νA k) = ν k := fun k hk => by
      rw [ltK, Nat.blt_eq] at hk
      rw [if_neg (by omega)]; exact a8 k hk
    refine ⟨hg.size, fun k => ?_, fun s => ?_, ?_, fun b hb => .inr hb, fun b hb => ?_, ?_, fun k hk => ?_⟩
    · show (if k = M then _ else _ : Value).oneCell' = true
      split
      · rfl
      · exact a7 k
    · obtain ⟨g1, g2⟩ := henv s
      refine ⟨Zc2 (fun k hk => by simp only [CS.st, ltK, Nat.blt_eq] at hk ⊢; omega) g1, R_nu hνm g1 (Zbk hst.le (fun y hy => ?_) g2)⟩
      exact (hZput y (hst.le y hy)).trans ((hst.ext.block y (hg.zk y hy)).trans (hold y (hKz y hy)))
    · have hc : ∀ {k b}, lkr ((M, some Blk.dfr) :: S t') k = some b → (k = M ∧ b = .dfr) ∨ (k < M ∧ lkr (S t') k = some b) := by
        intro k b hk
        rw [Zax] at hk
        by_cases h1 : k = M
        · rw [if_pos h1] at hk; exact .inl ⟨h1, (Option.some.inj hk).symm⟩
        · rw [if_neg h1] at hk
          exact .inr ⟨(hS t' k b hIX hk).1, hk⟩
      refine ⟨fun k => if k = M then fun x => x = w.heap.size else G k, fun k b hk => ?_⟩
      refine ⟨?_, ?_, ?_, fun x hx => ?_, fun k' b' hne hk' x hx hx' => ?_⟩
      · show Nat.blt k (M + 1) = true
        rw [Nat.blt_eq]
        rcases hc hk with ⟨rfl, _⟩ | ⟨h1, _⟩ <;> omega
      · rcases hc hk with ⟨_, rfl⟩ | ⟨_, h3⟩
        · exact trivial
        · exact Zcu (fun j hj => by simp only [CS.st, ltK, Nat.blt_eq] at hj ⊢; omega) (hS t' k b hIX h3).2
      · rcases hc hk with ⟨rfl, rfl⟩ | ⟨h1, h3⟩
        · dsimp only
          rw [if_pos rfl, if_pos rfl]
          exact ⟨[w.heap.size], rfl, fun b hb => by rw [List.mem_singleton.1 hb]; exact (hput _ (by omega)).trans a6, by simp, fun y => by simp⟩
        · dsimp only
          rw [if_neg (by omega), if_neg (by omega)]
          obtain ⟨g1, g2, g3⟩ := a9 k b h3
          exact Zdi (μ := ltK M) (fun j hj => by rw [ltK, Nat.blt_eq] at hj; rw [if_neg (by omega)]) (hS t' k b hIX h3).2 (Zbo (fun _ h => h) hZput (fun x hx => hput x (g2 x hx).2.1) g1)
      · rw [World.putObj_size]
        dsimp only at hx
        rcases hc hk with ⟨rfl, rfl⟩ | ⟨h1, h3⟩
        · rw [if_pos rfl] at hx
          rw [show x = _ from hx]; exact s2 _ a4
        · rw [if_neg (by omega)] at hx
          exact s2 x ((a9 k b h3).2.1 x hx).1
      · dsimp only at hx hx'
        rcases hc hk with ⟨rfl, rfl⟩ | ⟨h1, h3⟩ <;> rcases hc hk' with ⟨rfl, rfl⟩ | ⟨h1', h3'⟩
        · exact hne rfl
        · rw [if_pos rfl] at hx
          rw [if_neg (by omega)] at hx'
          exact ((a9 k' b' h3').2.1 x hx').2.2 hx
        · rw [if_pos rfl] at hx'
          rw [if_neg (by omega)] at hx
          exact ((a9 k b h3).2.1 x hx).2.2 hx'
        · rw [if_neg (by omega)] at hx hx'
          exact (a9 k b h3).2.2 k' b' hne h3' x hx hx'
    · rw [World.putObj_size]
      rcases hb with hb | hb
      · have h1 := hg.kl b hb
        have h2 := hst.ext.size
        omega
      · exact hz b hb
    · show _ ++ a.defers = List.flatMap (fun k => markOf (if k = M then _ else _)) (M :: ms)
      rw [hds, List.flatMap_cons, if_pos rfl]
      have e1 : markOf (markV [w.heap.size]) = [{ target := .collected w.heap.size, args := #[] }] := by
        rw [markOf_V]; rfl
      rw [e1]
      refine congrArg _ (fmC fun k hk => ?_)
      have := hms k hk
      rw [hνm k this]
    · show Nat.blt k (M + 1) = true
      rw [Nat.blt_eq]
      rcases List.mem_cons.1 hk with rfl | hk
      · omega
      · have := hms k hk
        rw [Nat.blt_eq] at this; omega
  cases bb with
  | true =>
    have hp : (rcEnd rc lv true).pending = none := by show rc.pending = none; rw [hrc]
    have hend := hend.trans (congrArg (fun q => Result.ok q (W'.putObj (w.heap.size + 1) (.loop { rcEnd rc lv true with state := .exhausted }))) hp)
    exact ⟨none, _, hend, hkey _ (next t' (hbt rfl).1 (hbt rfl).2)⟩
  | false =>
    have hk2 := hkey _ (left t' (hbf rfl))
    refine ⟨some lv.c, _, hend, ?_⟩
    cases lv with
    | ret => exact wpIn_ret hk2
    | exit id => exact wpIn_exit hk2
end
end Go.Proofs.Ytbcghiagomkadaa.Cal
