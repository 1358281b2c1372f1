/- Own texts, merged. -/
import Derived.Test.YtbcghiagomkadaaS9
set_option linter.unusedVariables false
set_option linter.unusedSimpArgs false
open Nat (reduceAdd reduceSub reduceMul reduceEqDiff reduceLeDiff reduceLT)
namespace Go.Proofs.Ytbcghiagomkadaa.Cal
open Go
def IterU (P : Program) (gf : Nat) (c : AV) {τ : Type} (I X : τ → Prop) (hd : τ → Int) (L : τ → List Int → Prop) (go : τ → Prop) (nx : τ → τ → Prop) (st fin : τ → Prop) : Prop :=
  ∀ (A : Bool → τ → SemA)
    (hY : ∀ t li, I t → go t → L t li → Zk5 P [.int .i64 (hd t), .roI li] [(1, some (.sem [0] (A true t)))] 2
      (fun g => ∃ b t', (b = true → I t' ∧ nx t t') ∧ (b = false → X t') ∧ g = ⟨2, .bool b, [(1, some (.sem [0] (A b t')))]⟩))
    (t0 : τ) (h0 : I t0) (hi0 : st t0),
    FG P gf [.yld 0, c] [(1, some (.sem [0] (A true t0)))] 2
      (fun g => ∃ b t', (b = true → I t' ∧ fin t') ∧ (b = false → X t') ∧ g = ⟨2, resV [], [(1, some (.sem [0] (A b t')))]⟩)
section
variable {P : Program} {ro : Option Nat} {N κ : Nat} {tb : Nat → Option TI}
theorem round_yieldsU {τ : Type} {I X : τ → Prop} {hd : τ → Int} {go : τ → Prop} {nx : τ → τ → Prop} {lv : Lv} {S : τ → List (Nat × Option Blk)} {M m p p2 fn lp D : Nat} {li : List Int} {L : τ → List Int → Prop} {env : List (Nat × AV)} {assign body : Code} {w : World} {Z : Nat → Prop} {ν : Nat → Value} {a : Act} {rc : Loop}
    (hrc : rc = { state := .ready, pending := none, fn, tmps := a.tmps, params := #[p, p2], assign, body, defers := D }) (hp : p < N) (hp2 : p2 < N) (hsz : a.tmps.size = N) (hmM : m ≤ M) (hlD : lp ≠ D)
    (henv : ∀ s, men (ltK m) (lke env s) = true ∧ R Z w (lke env s) ν true [a.tmps.getD s undef])
    (hS : ∀ t k b, I t ∨ X t → lkr (S t) k = some b → k < M ∧ menB (ltK M) b)
    (round : ∀ t li, I t → go t → L t li → awp P (some lp) N m assign (CS.st ⟨M, (p2, .roI li) :: (p, .int .i64 (hd t)) :: env, S t, []⟩) (fun e s => e = .normal ∧ awp P (some lp) N m body s (roundV m I X nx lv S M t)))
    (t : τ) (ht : I t) (hi : go t) (hli : L t li) :
    Zk5 P [.int .i64 (hd t), .roI li] [(1, some (.sem [0] (Zft w Z ν m lp D (Ze4 rc lv true) (S t))))] 2
      (fun g => ∃ b t', (b = true → I t' ∧ nx t t') ∧ (b = false → X t') ∧ g = ⟨2, .bool b, [(1, some (.sem [0] (Zft w Z ν m lp D (Ze4 rc lv b) (S t'))))]⟩) := by
  intro n K1 Z1 ν1 w1 vals l hone hvals hG hzk hkl hl
  obtain ⟨F1, hF1⟩ := hG
  obtain ⟨_, _, s1, s2, s3⟩ := hF1 1 (.sem [0] (Zft w Z ν m lp D (Ze4 rc lv true) (S t))) rfl
  obtain ⟨a1, a2, a3, a4, a5, a6, ν', G, a7, a8, a9⟩ := ASemV_of s1
  have e0 : ν1 0 = .map (some lp) := by injection a1
  obtain rfl : l = lp := by rw [hl] at e0; injection e0 with h; injection h
  obtain ⟨v, vs, hvv, r1, v2, vs2, hvs, r2, r3⟩ := hvals
  have r1 := one1 r1
  have r3 : vs2 = [] := r3
  subst r1 r3 hvs
  have hvals2 : vals = #[.int .i64 (hd t), v2] := by rw [← Array.toList_inj, hvv]
  subst hrc
  have a5 : w1.heap[l]? = some (.loop { state := .ready, pending := none, fn := fn, tmps := a.tmps, params := #[p, p2], assign := assign, body := body, defers := D }) := a5
  have hy := run_yield (P := P) (args := vals) a5 (by rw [hvals2]; rfl)
  have htm : ∀ (T : Array Value) (v : Value), ((#[p, p2] : Array Tmp).zip #[v, v2]).foldl (fun tmps (x : Tmp × Value) => tmps.setIfInBounds x.1 x.2) T = (T.setIfInBounds p v).setIfInBounds p2 v2 := fun T v => by simp
  refine ⟨_, _, _, _, hy, roundIn_of_wpIn trivial ?_⟩
  have htm2 := htm a.tmps (.int .i64 (hd t))
  rw [← hvals2] at htm2
  have hlz : ¬ Z1 l := fun h => (s2 l a3).1 (hzk l h)
  have hDz : ¬ Z1 D := fun h => (s2 D a4).1 (hzk D h)
  -- the round's own view
  have hgood : Good (fun b => K1 b ∨ b = l ∨ b = D) Z1 N w1 ν' (CS.st ⟨M, (p2, .roI li) :: (p, .int .i64 (hd t)) :: env, S t, []⟩) { tmps := (a.tmps.setIfInBounds p (.int .i64 (hd t))).setIfInBounds p2 v2, defers := [] } := by
    have hνm : ∀ k, ltK m k = true → ν' k = ν k := fun k hk => by
      rw [ltK, Nat.blt_eq] at hk
      exact a8 k hk
    refine ⟨by simp [hsz], a7, fun s => ?_, ?_, fun b hb => .inl (hzk b hb), fun b hb => ?_, rfl, fun k hk => by cases hk⟩
    · show men (ltK M) (lke ((p2, _) :: (p, _) :: env) s) = true ∧ R Z1 w1 (lke ((p2, _) :: (p, _) :: env) s) _ true _
      rw [Zdn]
      by_cases hs2 : s = p2
      · subst hs2
        simp only [if_true]
        refine ⟨rfl, ?_⟩
        have : ((a.tmps.setIfInBounds p (.int .i64 (hd t))).setIfInBounds s v2).getD s undef = v2 := by
          simp [Array.getD_eq_getD_getElem?, hsz, hp2]
        show R Z1 w1 _ _ true [((a.tmps.setIfInBounds p (.int .i64 (hd t))).setIfInBounds s v2).getD s undef]
        rw [this]
        exact Zc7 rfl r2
      rw [if_neg hs2, Zdn]
      have e2 : ((a.tmps.setIfInBounds p (.int .i64 (hd t))).setIfInBounds p2 v2).getD s undef = (a.tmps.setIfInBounds p (.int .i64 (hd t))).getD s undef := by
        simp [Array.getD_eq_getD_getElem?, Array.getElem?_setIfInBounds, Ne.symm hs2]
      by_cases hs : s = p
      · subst hs
        simp only [if_true]
        refine ⟨rfl, ?_⟩
        show [((a.tmps.setIfInBounds s (.int .i64 (hd t))).setIfInBounds p2 v2).getD s undef] = [_]
        rw [e2]
        simp [Array.getD_eq_getD_getElem?, hsz, hp]
      · simp only [if_neg hs]
        obtain ⟨g1, g2⟩ := henv s
        refine ⟨Zdm (fun k hk => by simp only [ltK, Nat.blt_eq] at hk ⊢; omega) g1, ?_⟩
        have : (a.tmps.setIfInBounds p (.int .i64 (hd t))).getD s undef = a.tmps.getD s undef := by
          simp [Array.getD_eq_getD_getElem?, Array.getElem?_setIfInBounds, Ne.symm hs]
        show R Z1 w1 (lke env s) _ true [((a.tmps.setIfInBounds p (.int .i64 (hd t))).setIfInBounds p2 v2).getD s undef]
        rw [e2, this]
        exact R_nu hνm g1 (Zbk (fun y hy => (a2 y hy).1) (fun y hy => (a2 y hy).2) g2)
    · refine ⟨G, fun k b hk => ?_⟩
      obtain ⟨b1, b2⟩ := hS t k b (.inl ht) hk
      obtain ⟨c1, c2, c3⟩ := a9 k b hk
      refine ⟨by show Nat.blt k M = true; rw [Nat.blt_eq]; exact b1, b2, c1, fun x hx => ?_, fun k' b' hne hk' => c3 k' b' hne hk'⟩
      obtain ⟨d1, d2, d3⟩ := c2 x hx
      obtain ⟨f1, f2⟩ := s2 x d1
      exact ⟨fun h => h.elim f1 fun h => h.elim d2 d3, f2⟩
    · rcases hb with h | rfl | rfl
      · exact hkl b h
      · exact (Array.getElem?_eq_some_iff.1 a5).1
      · exact (Array.getElem?_eq_some_iff.1 a6).1
  have hasg := round t li ht hi hli n _ Z1 _ w1 _ hgood
  have hasg2 : assign.wpIn ((FF none).inRound l) n P _ { tmps := (a.tmps.setIfInBounds p (.int .i64 (hd t))).setIfInBounds p2 v2, defers := [] } w1 := hasg
  rw [← htm2] at hasg2
  refine wpIn_mono hasg2 ?_
  rintro e a2' w2 ⟨Z2, ν2, σ2, st2, nu2, good2, rfl, hbody⟩
  -- the round begins
  have hl2 : w2.heap[l]? = _ := (st2.ext.block l (.inr (.inl rfl))).trans a5
  have hZl : ∀ {Zx : Nat → Prop} {wx : World}, Step (fun b => K1 b ∨ b = l ∨ b = D) Z1 w1 Zx wx → ¬ Zx l ∧ ¬ Zx D := fun h =>
    ⟨fun hz => (h.new l hz).elim hlz fun h => h (.inr (.inl rfl)), fun hz => (h.new D hz).elim hDz fun h => h (.inr (.inr rfl))⟩
  refine ⟨_, run_beginRound hl2 rfl, ?_⟩
  have good3 := good2.put (r := l) (o := .loop { state := .busy, pending := none, fn := fn, tmps := a.tmps, params := #[p, p2], assign := assign, body := body, defers := D }) (.inl (.inr (.inl rfl))) (hZl st2).1
  have hb := hbody n _ _ _ _ _ good3
  refine wpIn_mono (show body.wpIn ((FF none).inRound l) n P _ a2' _ from hb) ?_
  rintro e a3' w3 ⟨Z3, ν3, σ3, st3, nu3, good4, cs, t', ρ, rfl, hle, hfate⟩
  have hKl : ∀ b, (K1 b ∨ b = l ∨ b = D) → un (fun b => K1 b ∨ b = l ∨ b = D) Z2 b := fun b h => .inl h
  have hl3 : w3.heap[l]? = some (.loop { state := .busy, pending := none, fn := fn, tmps := a.tmps, params := #[p, p2], assign := assign, body := body, defers := D }) :=
    (st3.ext.block l (hKl l (.inr (.inl rfl)))).trans (World.putObj_heap_same (Array.getElem?_eq_some_iff.1 hl2).1)
  have hD3 : w3.heap[D]? = some (.deferred (some [])) :=
    (st3.ext.block D (hKl D (.inr (.inr rfl)))).trans ((World.putObj_heap_other (Ne.symm hlD)).trans ((st2.ext.block D (.inr (.inr rfl))).trans a6))
  -- which end
  obtain ⟨bb, hbb⟩ : ∃ bb : Bool, (bb = true → e = .normal ∧ I t' ∧ nx t t') ∧ (bb = false → e = lv.e ∧ X t') := by
    rcases hfate with h | h
    · exact ⟨true, (fun _ => h), fun h => by cases h⟩
    · exact ⟨false, (fun h => by cases h), fun _ => h⟩
  have hIX : I t' ∨ X t' := by
    rcases hfate with h | h
    · exact .inl h.2.1
    · exact .inr h.2
  suffices hres : ∀ (o : Loop), o = Ze4 { state := .ready, pending := none, fn := fn, tmps := a.tmps, params := #[p, p2], assign := assign, body := body, defers := D } lv bb →
      ∃ (y : Value) (Z' : Nat → Prop) (νr : Nat → Value) (g : GR), Ending.returned (Value.bool bb) = .returned y ∧ Step K1 Z1 w1 Z' (w3.putObj l (.loop o)) ∧ (∀ k, (νr k).oneCell' = true) ∧ (∀ k, k < 2 → νr k = ν1 k) ∧ R Z' (w3.putObj l (.loop o)) g.val νr true [y] ∧ men (ltK g.m) g.val = true ∧ GoodRs (un K1 Z') Z' (w3.putObj l (.loop o)) νr (ltK g.m) (lkr g.rs) ∧ (∀ b, Z' b → b < (w3.putObj l (.loop o)).heap.size) ∧
        (∃ b t'', (b = true → I t'' ∧ nx t t'') ∧ (b = false → X t'') ∧ g = ⟨2, .bool b, [(1, some (.sem [0] (Zft w Z ν m l D (Ze4 { state := .ready, pending := none, fn := fn, tmps := a.tmps, params := #[p, p2], assign := assign, body := body, defers := D } lv b) (S t''))))]⟩) ∧ 2 ≤ g.m by
    cases bb with
    | true =>
      obtain ⟨rfl, hI, hN⟩ := hbb.1 rfl
      exact ⟨_, _, run_endRound none hl3, hres _ rfl⟩
    | false =>
      obtain ⟨rfl, hX⟩ := hbb.2 rfl
      cases lv with
      | ret => exact ⟨_, _, run_endRound (some .ret) hl3, hres _ rfl⟩
      | exit id => exact ⟨_, _, run_endRound (some (.exit id)) hl3, hres _ rfl⟩
  intro o ho
  have hle2 := Good.le good4 (Zka ρ hle.chk hle.env hle.rs)
  obtain ⟨H, hH⟩ := hle2.rs
  have hid := (Zka ρ hle.chk hle.env hle.rs).id
  -- the step from the round's begin to its end
  have hK1 : ∀ b, K1 b → b ≠ l ∧ b ≠ D := fun b hb => ⟨fun e => (s2 l a3).1 (e ▸ hb), fun e => (s2 D a4).1 (e ▸ hb)⟩
  have hstep : Step K1 Z1 w1 Z3 (w3.putObj l (.loop o)) := by
    refine ⟨⟨st3.ext.os.trans st2.ext.os, st3.ext.tape.trans st2.ext.tape, st3.ext.output.trans st2.ext.output, ?_, fun b hb => ?_⟩, fun b hb => st3.le b (st2.le b hb), fun b hb => ?_⟩
    · have h1 := st2.ext.size
      have h2 := st3.ext.size
      rw [World.putObj_size] at h2 ⊢
      omega
    · exact (World.putObj_heap_other (hK1 b hb).1).trans ((st3.ext.block b (hKl b (.inl hb))).trans ((World.putObj_heap_other (hK1 b hb).1).trans (st2.ext.block b (.inl hb))))
    · rcases st3.new b hb with h | h
      · rcases st2.new b h with h | h
        · exact .inl h
        · exact .inr fun hk => h (.inl hk)
      · exact .inr fun hk => h (.inl (.inl hk))
  have hz3 : ¬ Z3 l ∧ ¬ Z3 D := by
    refine ⟨fun h => ?_, fun h => ?_⟩
    · rcases st3.new l h with h | h
      · exact (hZl st2).1 h
      · exact h (hKl l (.inr (.inl rfl)))
    · rcases st3.new D h with h | h
      · exact (hZl st2).2 h
      · exact h (hKl D (.inr (.inr rfl)))
  have n5 : ∀ k, k < m → ν3 (rhoL ρ k) = ν k := fun k hk => by
    rw [hid k hk, nu3 k hk, nu2 k hk]
    exact a8 k hk
  have hout : ∀ k b, lkr (S t') k = some b → ∀ x, H k x → ¬ un K1 Z3 x ∧ x < w3.heap.size ∧ x ≠ l ∧ x ≠ D := fun k b hk x hx => by
    obtain ⟨_, _, _, h2, _⟩ := hH k b hk
    obtain ⟨h3, h4⟩ := h2 x hx
    refine ⟨fun h => h3 ?_, h4, fun e => h3 ?_, fun e => h3 ?_⟩
    · rcases h with h | h
      · exact .inl (hKl x (.inl h))
      · exact .inr h
    · exact .inl (hKl x (.inr (.inl e)))
    · exact .inl (hKl x (.inr (.inr e)))
  have hput : ∀ x, x ≠ l → (w3.putObj l (.loop o)).heap[x]? = w3.heap[x]? := fun x hx => World.putObj_heap_other hx
  have hZput : ∀ x, Z3 x → (w3.putObj l (.loop o)).heap[x]? = w3.heap[x]? := fun x hx => hput x (fun e => hz3.1 (e ▸ hx))
  have hlt3 : l < w3.heap.size := (Array.getElem?_eq_some_iff.1 hl3).1
  have hDt3 : D < w3.heap.size := (Array.getElem?_eq_some_iff.1 hD3).1
  refine ⟨.bool bb, Z3, fun k => if k < 2 then ν1 k else .nilFunc, ⟨2, .bool bb, [(1, some (.sem [0] (Zft w Z ν m l D (Ze4 _ lv bb) (S t'))))]⟩, rfl, hstep, fun k => ?_, fun k hk => if_pos hk, rfl, rfl, ?_, fun b hb => ?_, ⟨bb, t', fun h => (hbb.1 h).2, fun h => (hbb.2 h).2, rfl⟩, Nat.le_refl _⟩
  · dsimp only
    split
    · exact hone k
    · rfl
  · refine ⟨fun k => fun x => x = l ∨ x = D ∨ ∃ k b, lkr (S t') k = some b ∧ H k x, fun k b hk => ?_⟩
    have hc : k = 1 ∧ b = .sem [0] (Zft w Z ν m l D (Ze4 { state := .ready, pending := none, fn := fn, tmps := a.tmps, params := #[p, p2], assign := assign, body := body, defers := D } lv bb) (S t')) := by
      rw [Zar] at hk
      by_cases h1 : k = 1
      · rw [if_pos h1] at hk; exact ⟨h1, (Option.some.inj hk).symm⟩
      · rw [if_neg h1] at hk; cases hk
    obtain ⟨rfl, rfl⟩ := hc
    have hlD1 : (¬ un K1 Z3 l ∧ l < w3.heap.size) ∧ (¬ un K1 Z3 D ∧ D < w3.heap.size) := by
      refine ⟨⟨?_, hlt3⟩, ⟨?_, hDt3⟩⟩
      · rintro (h | h)
        · exact (hK1 l h).1 rfl
        · exact hz3.1 h
      · rintro (h | h)
        · exact (hK1 D h).2 rfl
        · exact hz3.2 h
    refine ⟨rfl, ?_, ?_, fun x hx => ?_, fun k' b' hne hk' x hx hx' => ?_⟩
    · intro j hj
      simp only [List.mem_cons, List.not_mem_nil, or_false] at hj
      rw [hj]; rfl
    · refine sat_ASemV (νc := fun k => if k < 2 then ν1 k else .nilFunc) ⟨?_, fun y hy => ⟨?_, ?_⟩, .inl rfl, .inr (.inl rfl), ?_, (hput D (Ne.symm hlD)).trans hD3, fun k => ν3 (rhoL ρ k), H, hle2.one, n5, fun k b hk => ?_⟩
      · show [ν1 0] = _
        exact a1
      · exact hstep.le y (a2 y hy).1
      · exact (hstep.ext.block y (hzk y (a2 y hy).1)).trans (a2 y hy).2
      · rw [← ho]; exact World.putObj_heap_same hlt3
      · obtain ⟨_, _, g1, g2, g3⟩ := hH k b hk
        exact ⟨Zbp (fun _ h => h) hZput (fun x hx => hput x (hout k b hk x hx).2.2.1) g1, fun x hx => ⟨.inr (.inr ⟨k, b, hk, hx⟩), (hout k b hk x hx).2.2⟩, fun k' b' hne hk' => g3 k' b' hne hk'⟩
    · rw [World.putObj_size]
      rcases hx with rfl | rfl | ⟨k2, b2, h2, h⟩
      · exact hlD1.1
      · exact hlD1.2
      · exact ⟨(hout k2 b2 h2 x h).1, (hout k2 b2 h2 x h).2.1⟩
    · rw [Zar] at hk'
      by_cases h1 : k' = 1
      · exact hne h1.symm
      · rw [if_neg h1] at hk'; cases hk'
  · rw [World.putObj_size]
    exact hle2.kl b (hle2.zk b hb)
theorem awp_rangeU {gOp : Operand} {p p2 gf m M : Nat} {c : AV} {assign body : Code} {env : List (Nat × AV)} {Q : Exit → St → Prop} {τ : Type} (I X : τ → Prop) (hd : τ → Int) (L : τ → List Int → Prop) (go : τ → Prop) (nx : τ → τ → Prop) (st fin : τ → Prop) (lv : Lv) (S : τ → List (Nat × Option Blk)) (ms : List Nat) (t0 : τ)
    (hIter : IterU P gf c I X hd L go nx st fin) (h0 : I t0) (hi0 : st t0) (hu : men noK c = true)
    (hgo : opv (lke env) gOp = .fn gf (.cons c .nil)) (hp : Nat.blt p N = true) (hp2 : Nat.blt p2 N = true) (hmM : Nat.ble m M = true) (hκ : Nat.ble κ m = true) (hmen : menE m env = true) (hms : ∀ k, k ∈ ms → Nat.blt k m = true)
    (hS : ∀ t k b, I t ∨ X t → lkr (S t) k = some b → k < M ∧ menB (ltK M) b)
    (round : ∀ lp t li, I t → go t → L t li → awp P (some lp) N m assign (CS.st ⟨M, (p2, .roI li) :: (p, .int .i64 (hd t)) :: env, S t, []⟩) (fun e s => e = .normal ∧ awp P (some lp) N m body s (roundV m I X nx lv S M t)))
    (next : ∀ t, I t → fin t → Q .normal (CS.st ⟨M + 1, env, (M, some .dfr) :: S t, M :: ms⟩))
    (left : ∀ t, X t → Q lv.e (CS.st ⟨M + 1, env, (M, some .dfr) :: S t, M :: ms⟩)) :
    awp P none N κ (.rangeFunc gOp #[p, p2] assign body) (CS.st ⟨M, env, S t0, ms⟩) Q := by
  rw [Nat.blt_eq] at hp hp2
  have hmM := Nat.le_of_ble_eq_true hmM
  have hκ := Nat.le_of_ble_eq_true hκ
  intro n K Z ν w a hg
  refine wpIn_rangeFunc ?_
  intro fn _
  obtain ⟨rc, hrc⟩ : ∃ rc : Loop, rc = { state := .ready, pending := none, fn, tmps := a.tmps, params := #[p, p2], assign, body, defers := w.heap.size } := ⟨_, rfl⟩
  obtain ⟨W1, hW1⟩ : ∃ W1, (w.alloc (.deferred (some []))).alloc (.loop rc) = W1 := ⟨_, rfl⟩
  have hs1 : W1.heap.size = w.heap.size + 2 := by rw [← hW1, World.size_alloc, World.size_alloc]
  have hL1 : W1.heap[w.heap.size + 1]? = some (.loop rc) := by
    rw [← hW1]; have := World.alloc_heap_new (w.alloc (.deferred (some []))) (.loop rc); rwa [World.size_alloc] at this
  have hD1 : W1.heap[w.heap.size]? = some (.deferred (some [])) := by
    rw [← hW1]; exact (Ze6 _ _ _ (by rw [World.size_alloc]; omega)).trans (World.alloc_heap_new w _)
  have hold : ∀ b, b < w.heap.size → W1.heap[b]? = w.heap[b]? := fun b hb => by
    rw [← hW1]; exact (Ze6 _ _ _ (by rw [World.size_alloc]; omega)).trans (Ze6 _ _ _ hb)
  have hos : W1.os = w.os ∧ W1.tape = w.tape ∧ W1.output = w.output := by rw [← hW1]; exact ⟨rfl, rfl, rfl⟩
  have hev := Zju hg gOp
  rw [show opv (CS.st ⟨M, env, S t0, ms⟩).env gOp = _ from hgo] at hev
  obtain ⟨cv, ecv, rcv⟩ := hev
  have ecv := one1 ecv
  obtain ⟨vb, vs, hcv, rb, rn⟩ := rcv
  have rn : vs = [] := rn
  subst rn hcv
  have henv : ∀ s, men (ltK m) (lke env s) = true ∧ R Z w (lke env s) ν true [a.tmps.getD s undef] := fun s => ⟨menE_lke hmen s, (hg.env s).2⟩
  have hds : a.defers = ms.flatMap (fun k => Zf3 (ν k)) := hg.ds
  have hFG := hIter (fun b t => Zft w Z ν m (w.heap.size + 1) w.heap.size (Ze4 rc lv b) (S t))
    (fun t li ht hi hli => round_yieldsU hrc hp hp2 hg.size (by omega) (by omega) henv (fun t k b ht hk => hS t k b ht hk) (fun t li ht hi hl => round _ t li ht hi hl) t ht hi hli) t0 h0 hi0
  obtain ⟨⟨fn', hfn', hname, hbody⟩, hcall⟩ := hFG
  have eg : ∀ args w, (callFunc gf args).run P w = .ok (.enter gf args) w := by
    intro args w
    simp [callFunc, hfn', Sem.run_bind, Result.andThen, Sem.run, program]
    have hname' : ¬ fn'.name = "runtime.NumGoroutine" := by simpa using hname
    cases hb : fn'.body with
    | none => rw [hb] at hbody; cases hbody
    | some c => simp [hname', hb, Sem.run]
  obtain ⟨Ft, hF⟩ := id hg.rs
  have hKz : ∀ b, Z b → b < w.heap.size := fun b hb => hg.kl b (hg.zk b hb)
  have hsat : ∀ k b, lkr (S t0) k = some b → sat Z W1 ν (ν k) (Ft k) b := fun k b hk => by
    obtain ⟨_, _, h3, h4, _⟩ := hF k b hk
    exact Zbp (fun _ h => h) (fun x hx => hold x (hKz x hx)) (fun x hx => hold x (h4 x hx).2) h3
  have hdis : ∀ x, ∀ k b, lkr (S t0) k = some b → Ft k x → ¬ K x ∧ x < w.heap.size := fun x k b hk hx => (hF k b hk).2.2.2.1 x hx
  have hcl := hcall K Z (fun j => if j = 0 then .map (some (w.heap.size + 1)) else .nilFunc) W1 #[.func (.yield (w.heap.size + 1)) #[] #[], vb]
    (fun k => by
      split <;> rfl)
    ⟨_, _, rfl, ⟨w.heap.size + 1, rfl, rfl⟩, _, _, rfl, Zc7 hu (Zbk (fun _ h => h) (fun y hy => hold y (hKz y hy)) rb), rfl⟩ (by show (men (ltK 2) (.yld 0) && (men (ltK 2) c && men (ltK 2) .nil)) = true; rw [Zb0 hu]; rfl)
    (by
      refine ⟨fun k => fun x => x = w.heap.size + 1 ∨ x = w.heap.size ∨ ∃ k b, lkr (S t0) k = some b ∧ Ft k x, fun k b hk => ?_⟩
      obtain ⟨rfl, rfl⟩ := cases1 hk
      refine ⟨rfl, ?_, ?_, fun x hx => ?_, fun k' b' hne hk' x hx hx' => hne (cases1 hk').1.symm⟩
      · intro j hj
        rw [List.mem_singleton.1 hj]; rfl
      · refine sat_ASemV (νc := fun j => if j = 0 then .map (some (w.heap.size + 1)) else .nilFunc) ⟨rfl, fun y hy => ⟨hy, hold y (hKz y hy)⟩, .inl rfl, .inr (.inl rfl), hL1, hD1, ν, Ft, hg.one, fun _ _ => rfl, fun k b hk => ?_⟩
        refine ⟨hsat k b hk, fun x hx => ⟨.inr (.inr ⟨k, b, hk, hx⟩), ?_, ?_⟩, fun k' b' hne hk' => (hF k b hk).2.2.2.2 k' b' hne hk'⟩
        · have := (hdis x k b hk hx).2; omega
        · have := (hdis x k b hk hx).2; omega
      · have hKs : ∀ x, K x → x < w.heap.size := hg.kl
        rcases hx with h | h | ⟨k2, b2, h2, h⟩
        · exact ⟨fun hk => by have := hKs x hk; omega, by omega⟩
        · exact ⟨fun hk => by have := hKs x hk; omega, by omega⟩
        · exact ⟨(hdis x _ _ h2 h).1, by have := (hdis x _ _ h2 h).2; omega⟩)
    hg.zk (fun b hb => by rw [hs1]; have := hg.kl b hb; omega)
  refine ⟨w.heap.size + 1, [{ target := .collected w.heap.size, args := #[] }], W1, { target := .fn (.func gf) [vb].toArray, args := #[.func (.yield (w.heap.size + 1)) #[] #[]] }, W1, gf, #[.func (.yield (w.heap.size + 1)) #[] #[]] ++ [vb].toArray, W1, ?_, ?_, ?_, ?_, (fun h => by cases h), ?_⟩
  · rw [← hW1, hrc]; exact run_enterLoop_outer _ _ _ _ _
  · simp only [resolve, ecv]
    simp [go_sem]
  · intro f' _; exact trivial
  · simp [invoke, go_sem, eg]
  refine CallsIn.mono (Zdo hcl) ?_
  rintro e W' ⟨y, Z', ν', v, μ', rs', rfl, hst, h1', hν, _, hr', hm', ⟨Fn, hFn⟩, hz, g, ⟨bb, t', hbt, hbf, rfl⟩, rfl, rfl, _, rfl⟩
  obtain ⟨_, _, s1, s2, s3⟩ := hFn 1 (.sem [0] (Zft w Z ν m (w.heap.size + 1) w.heap.size (Ze4 rc lv bb) (S t'))) rfl
  obtain ⟨a1, a2, a3, a4, a5, a6, νA, G, a7, a8, a9⟩ := ASemV_of s1
  have hIX : I t' ∨ X t' := by
    cases bb with
    | true => exact .inl (hbt rfl).1
    | false => exact .inr (hbf rfl)
  have hDz : ¬ Z' w.heap.size := fun h => (s2 _ a4).1 (.inr h)
  have hlz : ¬ Z' (w.heap.size + 1) := fun h => (s2 _ a3).1 (.inr h)
  have hput : ∀ x, x ≠ w.heap.size + 1 → (W'.putObj (w.heap.size + 1) (.loop { Ze4 rc lv bb with state := .exhausted })).heap[x]? = W'.heap[x]? := fun x hx => World.putObj_heap_other hx
  have hZput : ∀ x, Z' x → (W'.putObj (w.heap.size + 1) (.loop { Ze4 rc lv bb with state := .exhausted })).heap[x]? = W'.heap[x]? := fun x hx => hput x (fun e => hlz (e ▸ hx))
  have hend := run_endLoop (P := P) a5 (by
    cases bb with
    | true => show rc.state ≠ _; rw [hrc]; intro h; cases h
    | false => intro h; cases h)
  have hstep : Step K Z w Z' (W'.putObj (w.heap.size + 1) (.loop { Ze4 rc lv bb with state := .exhausted })) := by
    refine ⟨⟨hst.ext.os.trans hos.1, hst.ext.tape.trans hos.2.1, hst.ext.output.trans hos.2.2, ?_, fun b hb => ?_⟩, hst.le, hst.new⟩
    · have := hst.ext.size; rw [World.putObj_size]; omega
    · have := hg.kl b hb
      exact (hput b (by omega)).trans ((hst.ext.block b hb).trans (hold b this))
  -- the state behind the loop
  have hkey : ∀ e, Q e (CS.st ⟨M + 1, env, (M, some .dfr) :: S t', M :: ms⟩) → Post N κ K Z w ν Q e { a with defers := [{ target := .collected w.heap.size, args := #[] }] ++ a.defers } (W'.putObj (w.heap.size + 1) (.loop { Ze4 rc lv bb with state := .exhausted })) := by
    intro e hq
    refine ⟨Z', fun k => if k = M then Zh1 [w.heap.size] else νA k, _, hstep, fun k hk => ?_, ?_, hq⟩
    · dsimp only
      rw [if_neg (by omega)]; exact a8 k (by omega)
    have hνm : ∀ k, ltK m k = true → (if k = M then Zh1 [w.heap.size] else νA k) = ν k := fun k hk => by
      rw [ltK, Nat.blt_eq] at hk
      rw [if_neg (by omega)]; exact a8 k hk
    refine ⟨hg.size, fun k => ?_, fun s => ?_, ?_, fun b hb => .inr hb, fun b hb => ?_, ?_, fun k hk => ?_⟩
    · show (if k = M then _ else _ : Value).oneCell' = true
      split
      · rfl
      · exact a7 k
    · obtain ⟨g1, g2⟩ := henv s
      refine ⟨Zdm (fun k hk => by simp only [CS.st, ltK, Nat.blt_eq] at hk ⊢; omega) g1, R_nu hνm g1 (Zbk hst.le (fun y hy => ?_) g2)⟩
      exact (hZput y (hst.le y hy)).trans ((hst.ext.block y (hg.zk y hy)).trans (hold y (hKz y hy)))
    · have hc : ∀ {k b}, lkr ((M, some Blk.dfr) :: S t') k = some b → (k = M ∧ b = .dfr) ∨ (k < M ∧ lkr (S t') k = some b) := by
        intro k b hk
        rw [Zar] at hk
        by_cases h1 : k = M
        · rw [if_pos h1] at hk; exact .inl ⟨h1, (Option.some.inj hk).symm⟩
        · rw [if_neg h1] at hk
          exact .inr ⟨(hS t' k b hIX hk).1, hk⟩
      refine ⟨fun k => if k = M then fun x => x = w.heap.size else G k, fun k b hk => ?_⟩
      refine ⟨?_, ?_, ?_, fun x hx => ?_, fun k' b' hne hk' x hx hx' => ?_⟩
      · show Nat.blt k (M + 1) = true
        rw [Nat.blt_eq]
        rcases hc hk with ⟨rfl, _⟩ | ⟨h1, _⟩ <;> omega
      · rcases hc hk with ⟨_, rfl⟩ | ⟨_, h3⟩
        · exact trivial
        · exact Zdv (fun j hj => by simp only [CS.st, ltK, Nat.blt_eq] at hj ⊢; omega) (hS t' k b hIX h3).2
      · rcases hc hk with ⟨rfl, rfl⟩ | ⟨h1, h3⟩
        · dsimp only
          rw [if_pos rfl, if_pos rfl]
          exact ⟨[w.heap.size], rfl, fun b hb => by rw [List.mem_singleton.1 hb]; exact (hput _ (by omega)).trans a6, by simp, fun y => by simp⟩
        · dsimp only
          rw [if_neg (by omega), if_neg (by omega)]
          obtain ⟨g1, g2, g3⟩ := a9 k b h3
          exact Zey (μ := ltK M) (fun j hj => by rw [ltK, Nat.blt_eq] at hj; rw [if_neg (by omega)]) (hS t' k b hIX h3).2 (Zbp (fun _ h => h) hZput (fun x hx => hput x (g2 x hx).2.1) g1)
      · rw [World.putObj_size]
        dsimp only at hx
        rcases hc hk with ⟨rfl, rfl⟩ | ⟨h1, h3⟩
        · rw [if_pos rfl] at hx
          rw [show x = _ from hx]; exact s2 _ a4
        · rw [if_neg (by omega)] at hx
          exact s2 x ((a9 k b h3).2.1 x hx).1
      · dsimp only at hx hx'
        rcases hc hk with ⟨rfl, rfl⟩ | ⟨h1, h3⟩ <;> rcases hc hk' with ⟨rfl, rfl⟩ | ⟨h1', h3'⟩
        · exact hne rfl
        · rw [if_pos rfl] at hx
          rw [if_neg (by omega)] at hx'
          exact ((a9 k' b' h3').2.1 x hx').2.2 hx
        · rw [if_pos rfl] at hx'
          rw [if_neg (by omega)] at hx
          exact ((a9 k b h3).2.1 x hx).2.2 hx'
        · rw [if_neg (by omega)] at hx hx'
          exact (a9 k b h3).2.2 k' b' hne h3' x hx hx'
    · rw [World.putObj_size]
      rcases hb with hb | hb
      · have h1 := hg.kl b hb
        have h2 := hst.ext.size
        omega
      · exact hz b hb
    · show _ ++ a.defers = List.flatMap (fun k => Zf3 (if k = M then _ else _)) (M :: ms)
      rw [hds, List.flatMap_cons, if_pos rfl]
      have e1 : Zf3 (Zh1 [w.heap.size]) = [{ target := .collected w.heap.size, args := #[] }] := by
        rw [markOf_V]; rfl
      rw [e1]
      refine congrArg _ (fmC fun k hk => ?_)
      have := hms k hk
      rw [hνm k this]
    · show Nat.blt k (M + 1) = true
      rw [Nat.blt_eq]
      rcases List.mem_cons.1 hk with rfl | hk
      · omega
      · have := hms k hk
        rw [Nat.blt_eq] at this; omega
  cases bb with
  | true =>
    have hp : (Ze4 rc lv true).pending = none := by show rc.pending = none; rw [hrc]
    have hend := hend.trans (congrArg (fun q => Result.ok q (W'.putObj (w.heap.size + 1) (.loop { Ze4 rc lv true with state := .exhausted }))) hp)
    exact ⟨none, _, hend, hkey _ (next t' (hbt rfl).1 (hbt rfl).2)⟩
  | false =>
    have hk2 := hkey _ (left t' (hbf rfl))
    refine ⟨some lv.c, _, hend, ?_⟩
    cases lv with
    | ret => exact wpIn_ret hk2
    | exit id => exact wpIn_exit hk2
end
open Go Pl
open Classical in
noncomputable def Zip (g : Gm) (pl : Int) (c : List Int) : Bool := decide (c.length = g.own.length ∧ ∀ v, v < g.own.length → (g.own.getD v 0 = pl → c.getD v 0 ∈ g.nxt.getD v []) ∧ (g.own.getD v 0 ≠ pl → c.getD v 0 = -1))
noncomputable def Zc5 (g : Gm) (pl : Int) (c : List Int) : Int := if Zbd g = true then (if pl ≠ 0 ∧ pl ≠ 1 then 6 else if Zip g pl c = true then 0 else 4) else 1
theorem asks_1 {g : Gm} {pl : Int} {c : List Int} (h : Zbd g = false) : Zc5 g pl c = 1 := by unfold Zc5; rw [if_neg (by rw [h]; decide)]
theorem asks_6 {g : Gm} {pl : Int} {c : List Int} (h : Zbd g = true) (h2 : pl ≠ 0 ∧ pl ≠ 1) : Zc5 g pl c = 6 := by unfold Zc5; rw [if_pos h, if_pos h2]
theorem asks_4 {g : Gm} {pl : Int} {c : List Int} (h : Zbd g = true) (h2 : ¬ (pl ≠ 0 ∧ pl ≠ 1)) (h3 : Zip g pl c = false) : Zc5 g pl c = 4 := by unfold Zc5; rw [if_pos h, if_neg h2, if_neg (by rw [h3]; decide)]
theorem asks_0 {g : Gm} {pl : Int} {c : List Int} (h : Zbd g = true) (h2 : ¬ (pl ≠ 0 ∧ pl ≠ 1)) (h3 : Zip g pl c = true) : Zc5 g pl c = 0 := by unfold Zc5; rw [if_pos h, if_neg h2, if_pos h3]
theorem asks_or (g : Gm) (pl : Int) (c : List Int) : (Zbd g = true ∧ (0 ≤ pl ∧ pl ≤ 1) ∧ Zip g pl c = true ∧ Zc5 g pl c = 0) ∨ Zc5 g pl c ≠ 0 := by
  unfold Zc5
  split
  · split
    · exact .inr (by decide)
    · split
      · rename_i h1 h2 h3
        exact .inl ⟨h1, by omega, h3, rfl⟩
      · exact .inr (by decide)
  · exact .inr (by decide)
noncomputable def Zha : Spec
  | [.agg (.cons (.roI o) (.cons (.roI p) (.cons (.roII x) .nil))), .int .i64 pl, .roI c] => some ⟨True, .tup (.cons (.roB (if Zc5 ⟨o, p, x⟩ pl c = 0 then Zek ⟨o, p, x⟩ pl c else [])) (.cons (.int .i64 (Zc5 ⟨o, p, x⟩ pl c)) .nil)), none⟩
  | _ => none
theorem full_rd {g : Gm} {pl : Int} {c : List Int} (hv : Zbd g = true) (h : Zip g pl c = true) : c.length = g.own.length ∧ ∀ v, v < g.own.length → g.own.getD v 0 = pl → 0 ≤ c.getD v 0 ∧ c.getD v 0 < (g.own.length : Int) := by
  obtain ⟨h1, h2⟩ := of_decide_eq_true h
  refine ⟨h1, fun v hv2 ho => ?_⟩
  exact (row_of (validB_iff.1 hv) hv2).2 _ ((h2 v hv2).1 ho)
def Zbs : Spec
  | [.roB a, .roB b] => some ⟨True, .bool (decide (a = b)), none⟩
  | _ => none
theorem Zk2 {a b : List Bool} (h1 : a.length = b.length) (h2 : ∀ j, j < a.length → a.getD j false = b.getD j false) : a = b := by
  refine List.ext_getElem h1 fun j h3 h4 => ?_
  have := h2 j h3
  simpa [List.getD_eq_getElem?_getD, List.getElem?_eq_getElem h3, List.getElem?_eq_getElem h4] using this
set_option maxRecDepth 4000 in
set_option maxHeartbeats 4000000 in
theorem bits_ok : Zby Try.prog 20 Zbs := by
  refine Za4 htb (fn := Try.f20) (by kernel_rfl) (by kernel_rfl) rfl (fun args r hS => ?_) (fun args r hS hob hl => ?_)
  · unfold Zbs at hS; split at hS <;> first | (cases hS; done) | (cases hS; exact Nat.le_of_ble_eq_true rfl)
  unfold Zbs at hS
  split at hS
  case h_2 => cases hS
  rename_i a b
  simp only [Option.some.injEq] at hS
  subst hS
  simp only [lenP, mkL, lim] at hl
  dsimp only at hob
  repeat' first
    | with_reducible first | apply Zan | apply Zaj | apply Zab | apply Zac | apply Zag | apply Zal | apply Zaf | apply Zah | apply Zam | apply Zao | apply Zak
    | ((with_reducible refine Zap ?_); refine Zai rfl ?_ ?_ <;> intro hb <;> (try simp only [zH] at hb)) | ((with_reducible refine Zaq 2 ?_ ?_); (· exact rfl); (with_reducible refine Zaq 3 ?_ ?_); (· exact rfl); (first | refine Zad htb hmz noSp fF rfl rfl ?_ | refine Zae hmo htb hmz noSp fF rfl rfl (by kernel_rfl) ?_); intro _ _ _ _ h; simp only [zE, evp, evx, ev1, evLoad, evStore, evBin, Zaa, forall_const, z38, tb, reduceAdd, reduceSub, reduceMul, reduceEqDiff, reduceLeDiff, reduceLT, Nat.reduceBEq, Nat.reduceBNe, ↓reduceIte, reduceIte] at h; obtain ⟨rfl, rfl, rfl, rfl⟩ := h; refine ⟨?_, ?_⟩) | ((with_reducible refine Ob.mk ?_); first | exact trivial | (intros; omega) | ((repeat' first | apply And.intro | (intro a; have b := a; try simp only [zH] at b)) <;> first | assumption | omega | (simp only [zH]; omega)))
  · repeat' first
      | with_reducible first | apply Zan | apply Zaj | apply Zab | apply Zac | apply Zag | apply Zal | apply Zaf | apply Zah | apply Zam | apply Zao | apply Zak
      | ((with_reducible refine Zap ?_); refine Zai rfl ?_ ?_ <;> intro hb <;> (try simp only [zH] at hb)) | ((with_reducible refine Zax ?_); (first | refine Zad htb hmz noSp fF rfl rfl ?_ | refine Zae hmo htb hmz noSp fF rfl rfl (by kernel_rfl) ?_); intro _ _ _ _ h; simp only [zE, evp, evx, ev1, evLoad, evStore, evBin, Zaa, forall_const, z38, tb, reduceAdd, reduceSub, reduceMul, reduceEqDiff, reduceLeDiff, reduceLT, Nat.reduceBEq, Nat.reduceBNe, ↓reduceIte, reduceIte] at h; obtain ⟨rfl, rfl, rfl, rfl⟩ := h; refine ⟨?_, ?_⟩) | ((with_reducible refine Ob.mk ?_); first | exact trivial | (intros; omega) | ((repeat' first | apply And.intro | (intro a; have b := a; try simp only [zH] at b)) <;> first | assumption | omega | (simp only [zH]; omega)))
    refine Zaw rfl rfl (Zat rfl ?_ rfl)
    have e : decide (a = b) = false := decide_eq_false fun h => by rw [h] at hb; exact hb rfl
    rw [e]; rfl
  have hl2 : a.length = b.length := by omega
  clear hb
  repeat' first
    | with_reducible first | apply Zan | apply Zaj | apply Zab | apply Zac | apply Zag | apply Zal | apply Zaf | apply Zah | apply Zam | apply Zao | apply Zak
    | ((with_reducible refine Zap ?_); refine Zai rfl ?_ ?_ <;> intro hb <;> (try simp only [zH] at hb)) | ((with_reducible refine Zax ?_); (first | refine Zad htb hmz noSp fF rfl rfl ?_ | refine Zae hmo htb hmz noSp fF rfl rfl (by kernel_rfl) ?_); intro _ _ _ _ h; simp only [zE, evp, evx, ev1, evLoad, evStore, evBin, Zaa, forall_const, z38, tb, reduceAdd, reduceSub, reduceMul, reduceEqDiff, reduceLeDiff, reduceLT, Nat.reduceBEq, Nat.reduceBNe, ↓reduceIte, reduceIte] at h; obtain ⟨rfl, rfl, rfl, rfl⟩ := h; refine ⟨?_, ?_⟩) | ((with_reducible refine Ob.mk ?_); first | exact trivial | (intros; omega) | ((repeat' first | apply And.intro | (intro a; have b := a; try simp only [zH] at b)) <;> first | assumption | omega | (simp only [zH]; omega)))
  refine Zau (τ := Nat) (fun i => i ≤ a.length ∧ ∀ j, j < i → a.getD j false = b.getD j false) (fun i => ⟨14, [(13, .int .i64 i), (12, .int .i64 a.length), (11, .roB a), (0, .roB a), (1, .roB b)], [], []⟩) (fun i => a.length - i) 0 [] ?_ ⟨Nat.zero_le _, fun j hj => absurd hj (Nat.not_lt_zero j)⟩ ?_
  · (refine ⟨rfl, ?_, ?_⟩ <;> simp only [zE, evp, evx, ev1, evLoad, evStore, evBin, Zaa, forall_const, z38, tb, reduceAdd, reduceSub, reduceMul, reduceEqDiff, reduceLeDiff, reduceLT, Nat.reduceBEq, Nat.reduceBNe, ↓reduceIte, reduceIte, zI])
  rintro i ⟨hi, hk⟩
  repeat' first
    | with_reducible first | apply Zan | apply Zaj | apply Zab | apply Zac | apply Zag | apply Zal | apply Zaf | apply Zah | apply Zam | apply Zao | apply Zak
    | ((with_reducible refine Zap ?_); refine Zai rfl ?_ ?_ <;> intro hb <;> (try simp only [zH] at hb)) | ((with_reducible refine Zaq 7 ?_ ?_); (· exact rfl); (with_reducible refine Zaq 9 ?_ ?_); (· exact rfl); (first | refine Zad htb hmz noSp fF rfl rfl ?_ | refine Zae hmo htb hmz noSp fF rfl rfl (by kernel_rfl) ?_); intro _ _ _ _ h; simp only [zE, evp, evx, ev1, evLoad, evStore, evBin, Zaa, forall_const, z38, tb, reduceAdd, reduceSub, reduceMul, reduceEqDiff, reduceLeDiff, reduceLT, Nat.reduceBEq, Nat.reduceBNe, ↓reduceIte, reduceIte] at h; obtain ⟨rfl, rfl, rfl, rfl⟩ := h; refine ⟨?_, ?_⟩) | ((with_reducible refine Ob.mk ?_); first | exact trivial | (intros; omega) | ((repeat' first | apply And.intro | (intro a; have b := a; try simp only [zH] at b)) <;> first | assumption | omega | (simp only [zH]; omega)))
  · repeat' first
      | with_reducible first | apply Zan | apply Zaj | apply Zab | apply Zac | apply Zag | apply Zal | apply Zaf | apply Zah | apply Zam | apply Zao | apply Zak
      | ((with_reducible refine Zap ?_); refine Zai rfl ?_ ?_ <;> intro hb <;> (try simp only [zH] at hb)) | ((with_reducible refine Zax ?_); (first | refine Zad htb hmz noSp fF rfl rfl ?_ | refine Zae hmo htb hmz noSp fF rfl rfl (by kernel_rfl) ?_); intro _ _ _ _ h; simp only [zE, evp, evx, ev1, evLoad, evStore, evBin, Zaa, forall_const, z38, tb, reduceAdd, reduceSub, reduceMul, reduceEqDiff, reduceLeDiff, reduceLT, Nat.reduceBEq, Nat.reduceBNe, ↓reduceIte, reduceIte] at h; obtain ⟨rfl, rfl, rfl, rfl⟩ := h; refine ⟨?_, ?_⟩) | ((with_reducible refine Ob.mk ?_); first | exact trivial | (intros; omega) | ((repeat' first | apply And.intro | (intro a; have b := a; try simp only [zH] at b)) <;> first | assumption | omega | (simp only [zH]; omega)))
    refine Zaw rfl rfl (Zat rfl ?_ rfl)
    have e : decide (a = b) = false := decide_eq_false fun h => by rw [h] at hb; simp at hb
    rw [e]; rfl
  · refine back (i + 1) [] ?_ ⟨by omega, fun v hv => ?_⟩ (by omega)
    · (refine ⟨rfl, ?_, ?_⟩ <;> simp only [zE, evp, evx, ev1, evLoad, evStore, evBin, Zaa, forall_const, z38, tb, reduceAdd, reduceSub, reduceMul, reduceEqDiff, reduceLeDiff, reduceLT, Nat.reduceBEq, Nat.reduceBNe, ↓reduceIte, reduceIte, zI])
    · rcases Nat.lt_succ_iff_lt_or_eq.1 hv with h | rfl
      · exact hk v h
      · simpa using hb
  have hie : i = a.length := by omega
  subst hie
  repeat' first
    | with_reducible first | apply Zan | apply Zaj | apply Zab | apply Zac | apply Zag | apply Zal | apply Zaf | apply Zah | apply Zam | apply Zao | apply Zak
    | ((with_reducible refine Zap ?_); refine Zai rfl ?_ ?_ <;> intro hb <;> (try simp only [zH] at hb)) | ((with_reducible refine Zax ?_); (first | refine Zad htb hmz noSp fF rfl rfl ?_ | refine Zae hmo htb hmz noSp fF rfl rfl (by kernel_rfl) ?_); intro _ _ _ _ h; simp only [zE, evp, evx, ev1, evLoad, evStore, evBin, Zaa, forall_const, z38, tb, reduceAdd, reduceSub, reduceMul, reduceEqDiff, reduceLeDiff, reduceLT, Nat.reduceBEq, Nat.reduceBNe, ↓reduceIte, reduceIte] at h; obtain ⟨rfl, rfl, rfl, rfl⟩ := h; refine ⟨?_, ?_⟩) | ((with_reducible refine Ob.mk ?_); first | exact trivial | (intros; omega) | ((repeat' first | apply And.intro | (intro a; have b := a; try simp only [zH] at b)) <;> first | assumption | omega | (simp only [zH]; omega)))
  refine Zaw rfl rfl (Zat rfl ?_ rfl)
  have e : decide (a = b) = true := decide_eq_true (Zk2 hl2 hk)
  rw [e]; rfl
open Go
def nro : AV → AV
  | .cst v => match isNilS v with | true => .roI [] | false => .cst v
  | .agg l => .agg (nro l)
  | .cons a b => .cons (nro a) (nro b)
  | u => u
theorem Zjv {Z : Nat → Prop} {w : World} {ν : Nat → Value} : ∀ {u : AV} {m : Bool} {cs : List Value}, R Z w u ν m cs → R Z w (nro u) ν m cs
  | .cst v, m, cs, h => by
    unfold nro
    cases hv : isNilS v with
    | false => exact h
    | true =>
      have := Zgh hv
      subst this
      have h : cs = [_] := h
      exact ⟨none, 0, h, Nat.le_refl _, Nat.zero_le _, fun h => absurd h (Nat.lt_irrefl _)⟩
  | .agg l, true, cs, h => by
    obtain ⟨es, e, r⟩ := h
    exact ⟨es, e, Zjv r⟩
  | .agg l, false, cs, h => Zjv (u := l) (m := true) h
  | .cons a b, m, cs, h => by
    obtain ⟨v, vs, e, r1, r2⟩ := h
    exact ⟨v, vs, e, Zjv r1, Zjv r2⟩
  | .any, _, _, h => h
  | .int _ _, _, _, h => h
  | .bool _, _, _, h => h
  | .own _, _, _, h => h
  | .adr _ _ _ _, _, _, h => h
  | .roI _, _, _, h => h
  | .roB _, _, _, h => h
  | .roII _, _, _, h => h
  | .ro _ _ _, _, _, h => h
  | .rop _, _, _, h => h
  | .tup _, _, _, h => h
  | .nil, _, _, h => h
  | .fn _ _, _, _, h => h
  | .yld _, _, _, h => h
  | .whn _ _, _, _, h => h
theorem Zgz {μ : Nat → Bool} : ∀ {u : AV}, men μ u = true → men μ (nro u) = true
  | .cst v, _ => by unfold nro; cases isNilS v <;> rfl
  | .agg l, h => Zgz (u := l) h
  | .cons a b, h => by
    simp only [men, Bool.and_eq_true] at h
    show (men μ (nro a) && men μ (nro b)) = true
    rw [Zgz h.1, Zgz h.2]; rfl
  | .any, h => h
  | .int _ _, h => h
  | .bool _, h => h
  | .own _, h => h
  | .adr _ _ _ _, h => h
  | .roI _, h => h
  | .roB _, h => h
  | .roII _, h => h
  | .ro _ _ _, h => h
  | .rop _, h => h
  | .tup _, h => h
  | .nil, h => h
  | .fn _ _, h => h
  | .yld _, h => h
  | .whn _ _, h => h
section
variable {P : Program} {ro : Option Nat} {N κ : Nat}
theorem awp_nro {c : Code} {m : Nat} {env : List (Nat × AV)} {rs : List (Nat × Option Blk)} {ms : List Nat} {Q : Exit → St → Prop} (k : Nat) {u : AV} (hk : lkr rs k = some (.box u)) {rs' : List (Nat × Option Blk)} (hrs : set1 k (.box (nro u)) rs = rs')
    (h : awp P ro N κ c (CS.st ⟨m, env, rs', ms⟩) Q) : awp P ro N κ c (CS.st ⟨m, env, rs, ms⟩) Q := by
  intro n K Z ν w a hg
  refine h n K Z ν w a { hg with rs := ?_ }
  subst hrs
  obtain ⟨Ft, hF⟩ := hg.rs
  have e : (CS.st ⟨m, env, set1 k (.box (nro u)) rs, ms⟩).rs = fun j => if j = k then some (.box (nro u)) else lkr rs j := Zh2
  refine ⟨Ft, fun j b hj => ?_⟩
  rw [e] at hj
  have hold : ∀ j' b', (CS.st ⟨m, env, set1 k (.box (nro u)) rs, ms⟩).rs j' = some b' → ∃ b0, lkr rs j' = some b0 := fun j' b' h' => by
    rw [e] at h'
    dsimp only at h'
    by_cases h1 : j' = k
    · rw [h1]; exact ⟨_, hk⟩
    · rw [if_neg h1] at h'; exact ⟨_, h'⟩
  dsimp only at hj
  by_cases h1 : j = k
  · rw [if_pos h1] at hj
    cases hj
    subst h1
    obtain ⟨a1, a2, a3, a4, a5⟩ := hF j _ hk
    refine ⟨a1, Zgz a2, ?_, a4, fun j' b' hne hj' => ?_⟩
    · obtain ⟨b, cells, T, hx, hb, r, hFb⟩ := a3
      exact ⟨b, cells, T, hx, hb, Zjv r, hFb⟩
    · obtain ⟨b0, h0⟩ := hold j' b' hj'
      exact a5 j' b0 hne h0
  · rw [if_neg h1] at hj
    obtain ⟨a1, a2, a3, a4, a5⟩ := hF j b hj
    refine ⟨a1, a2, a3, a4, fun j' b' hne hj' => ?_⟩
    obtain ⟨b0, h0⟩ := hold j' b' hj'
    exact a5 j' b0 hne h0
end
section
variable {P : Program} {ro : Option Nat} {N κ : Nat}
theorem awp_nroA {c : Code} {m : Nat} {env : List (Nat × AV)} {rs : List (Nat × Option Blk)} {ms : List Nat} {Q : Exit → St → Prop} (k : Nat) {sz n : Nat} {f : Nat → AV} (f' : Nat → AV) (hk : lkr rs k = some (.avs sz n f)) (hf : ∀ j, j < n → nro (f j) = f' j) {rs' : List (Nat × Option Blk)} (hrs : set1 k (.avs sz n f') rs = rs')
    (h : awp P ro N κ c (CS.st ⟨m, env, rs', ms⟩) Q) : awp P ro N κ c (CS.st ⟨m, env, rs, ms⟩) Q := by
  intro n0 K Z ν w a hg
  refine h n0 K Z ν w a { hg with rs := ?_ }
  subst hrs
  obtain ⟨Ft, hF⟩ := hg.rs
  have e : (CS.st ⟨m, env, set1 k (.avs sz n f') rs, ms⟩).rs = fun j => if j = k then some (.avs sz n f') else lkr rs j := Zh2
  refine ⟨Ft, fun j b hj => ?_⟩
  rw [e] at hj
  have hold : ∀ j' b', (CS.st ⟨m, env, set1 k (.avs sz n f') rs, ms⟩).rs j' = some b' → ∃ b0, lkr rs j' = some b0 := fun j' b' h' => by
    rw [e] at h'
    dsimp only at h'
    by_cases h1 : j' = k
    · rw [h1]; exact ⟨_, hk⟩
    · rw [if_neg h1] at h'; exact ⟨_, h'⟩
  dsimp only at hj
  by_cases h1 : j = k
  · rw [if_pos h1] at hj
    cases hj
    subst h1
    obtain ⟨a1, a2, a3, a4, a5⟩ := hF j _ hk
    refine ⟨a1, fun i hi => ?_, ?_, a4, fun j' b' hne hj' => ?_⟩
    · rw [← hf i hi]; exact Zgz (a2 i hi)
    · exact Za5 (fun _ _ => rfl) (fun i es hi h => by rw [← hf i hi]; exact Zjv h) a3
    · obtain ⟨b0, h0⟩ := hold j' b' hj'
      exact a5 j' b0 hne h0
  · rw [if_neg h1] at hj
    obtain ⟨a1, a2, a3, a4, a5⟩ := hF j b hj
    refine ⟨a1, a2, a3, a4, fun j' b' hne hj' => ?_⟩
    obtain ⟨b0, h0⟩ := hold j' b' hj'
    exact a5 j' b0 hne h0
end
open Go Pl
def nanS : Spec
  | [.int .i64 _] => some ⟨True, .bool false, none⟩
  | _ => none
set_option maxRecDepth 4000 in
set_option maxHeartbeats 4000000 in
theorem nan_ok : Zby Try.prog 63 nanS := by
  refine Za4 htb (fn := Try.f63) (by kernel_rfl) (by kernel_rfl) rfl (fun args r hS => ?_) (fun args r hS hob hl => ?_)
  · unfold nanS at hS; split at hS <;> first | (cases hS; done) | (cases hS; exact Nat.le_of_ble_eq_true rfl)
  unfold nanS at hS
  split at hS
  case h_2 => cases hS
  rename_i a
  simp only [Option.some.injEq] at hS
  subst hS
  simp only [lenP, mkL, lim] at hl
  dsimp only at hob
  repeat' first
    | with_reducible first | apply Zan | apply Zaj | apply Zab | apply Zac | apply Zag | apply Zal | apply Zaf | apply Zah | apply Zam | apply Zao | apply Zak
    | ((with_reducible refine Zap ?_); refine Zai rfl ?_ ?_ <;> intro hb <;> (try simp only [zH] at hb)) | ((with_reducible refine Zax ?_); (first | refine Zad htb hmz noSp fF rfl rfl ?_ | refine Zae hmo htb hmz noSp fF rfl rfl (by kernel_rfl) ?_); intro _ _ _ _ h; simp only [zE, evp, evx, ev1, evLoad, evStore, evBin, Zaa, forall_const, z38, tb, reduceAdd, reduceSub, reduceMul, reduceEqDiff, reduceLeDiff, reduceLT, Nat.reduceBEq, Nat.reduceBNe, ↓reduceIte, reduceIte] at h; obtain ⟨rfl, rfl, rfl, rfl⟩ := h; refine ⟨?_, ?_⟩) | ((with_reducible refine Ob.mk ?_); first | exact trivial | (intros; omega) | ((repeat' first | apply And.intro | (intro a; have b := a; try simp only [zH] at b)) <;> first | assumption | omega | (simp only [zH]; omega)))
  refine Zaw rfl rfl (Zat rfl ?_ rfl)
  rfl
def sgnI (a b : Int) : Int := if a < b then -1 else if b < a then 1 else 0
def cmpS : Spec
  | [.int .i64 a, .int .i64 b] => some ⟨True, .int .i64 (sgnI a b), none⟩
  | _ => none
def spCm : Nat → Option Spec
  | 63 => some nanS
  | _ => none
theorem spCm_ok : SpOK Try.prog spCm := by
  intro f S h
  unfold spCm at h
  split at h
  · cases h; exact nan_ok
  · cases h
set_option maxRecDepth 4000 in
set_option maxHeartbeats 4000000 in
theorem cmp_ok : Zby Try.prog 61 cmpS := by
  refine Za4 htb (fn := Try.f61) (by kernel_rfl) (by kernel_rfl) rfl (fun args r hS => ?_) (fun args r hS hob hl => ?_)
  · unfold cmpS at hS; split at hS <;> first | (cases hS; done) | (cases hS; exact Nat.le_of_ble_eq_true rfl)
  unfold cmpS at hS
  split at hS
  case h_2 => cases hS
  rename_i a b
  simp only [Option.some.injEq] at hS
  subst hS
  simp only [lenP, mkL, lim] at hl
  dsimp only at hob
  repeat' first
    | with_reducible first | apply Zan | apply Zaj | apply Zab | apply Zac | apply Zag | apply Zal | apply Zaf | apply Zah | apply Zam | apply Zao | apply Zak
    | ((with_reducible refine Zap ?_); refine Zai rfl ?_ ?_ <;> intro hb <;> (try simp only [zH] at hb)) | ((with_reducible refine Zax ?_); (first | refine Zad htb hmz spCm_ok fF rfl rfl ?_ | refine Zae hmo htb hmz spCm_ok fF rfl rfl (by kernel_rfl) ?_); intro _ _ _ _ h; simp only [zE, evp, evx, ev1, evLoad, evStore, evBin, Zaa, forall_const, z38, tb, reduceAdd, reduceSub, reduceMul, reduceEqDiff, reduceLeDiff, reduceLT, Nat.reduceBEq, Nat.reduceBNe, ↓reduceIte, reduceIte, spCm, nanS] at h; obtain ⟨rfl, rfl, rfl, rfl⟩ := h; refine ⟨?_, ?_⟩) | ((with_reducible refine Ob.mk ?_); first | exact trivial | (intros; omega) | ((repeat' first | apply And.intro | (intro a; have b := a; try simp only [zH] at b)) <;> first | assumption | omega | (simp only [zH]; omega)))
  · cases hb
  · rename_i h
    cases h
  · cases hb
  · refine Zaw rfl rfl (Zat rfl ?_ rfl)
    rw [show sgnI a b = -1 from if_pos hb]; rfl
  · rename_i h
    refine Zaw rfl rfl (Zat rfl ?_ rfl)
    rw [show sgnI a b = 1 by unfold sgnI; rw [if_neg (by omega), if_pos hb]]; rfl
  · rename_i h
    refine Zaw rfl rfl (Zat rfl ?_ rfl)
    rw [show sgnI a b = 0 by unfold sgnI; rw [if_neg (by omega), if_neg (by omega)]]; rfl
structure Vl where
  e : Bool
  n : Bool
  m : List Int
def vlA (v : Vl) : AV := .agg (.cons (.bool v.e) (.cons (.bool v.n) (.cons (.roI v.m) .nil)))
def Zd9 (v : Vl) (p : Nat) : Vl := if v.e = true ∨ v.n = true then v else ⟨false, false, v.m.set p (v.m.getD p 0 + 1)⟩
def Zch (v : Vl) : Int := if v.n = true then -1 else if v.e = true then 1 else 0
def cmpK (pl : Int) (a b : List Int) : Nat → Int
  | 0 => 0
  | k + 1 => if sgnI (a.getD k 0) (b.getD k 0) ≠ 0 then (if (k : Int) % 2 ≠ pl then -(sgnI (a.getD k 0) (b.getD k 0)) else sgnI (a.getD k 0) (b.getD k 0)) else cmpK pl a b k
def cmpV (pl : Int) (a b : Vl) : Int := if sgnI (Zch a) (Zch b) ≠ 0 ∨ Zch a ≠ 0 then sgnI (Zch a) (Zch b) else cmpK pl a.m b.m a.m.length
def Zfd : Spec
  | [.agg (.cons (.bool e) (.cons (.bool n) (.cons (.roI m) .nil)))] => some ⟨True, .int .i64 (Zch ⟨e, n, m⟩), none⟩
  | _ => none
set_option maxRecDepth 4000 in
set_option maxHeartbeats 4000000 in
theorem rank_ok : Zby Try.prog 62 Zfd := by
  refine Za4 htb (fn := Try.f62) (by kernel_rfl) (by kernel_rfl) rfl (fun args r hS => ?_) (fun args r hS hob hl => ?_)
  · unfold Zfd at hS; split at hS <;> first | (cases hS; done) | (cases hS; exact Nat.le_of_ble_eq_true rfl)
  unfold Zfd at hS
  split at hS
  case h_2 => cases hS
  rename_i e n m
  simp only [Option.some.injEq] at hS
  subst hS
  simp only [lenP, mkL, lim] at hl
  dsimp only at hob
  repeat' first
    | with_reducible first | apply Zan | apply Zaj | apply Zab | apply Zac | apply Zag | apply Zal | apply Zaf | apply Zah | apply Zam | apply Zao | apply Zak
    | ((with_reducible refine Zap ?_); refine Zai rfl ?_ ?_ <;> intro hb <;> (try simp only [zH] at hb)) | ((with_reducible refine Zax ?_); (first | refine Zad htb hmz noSp fF rfl rfl ?_ | refine Zae hmo htb hmz noSp fF rfl rfl (by kernel_rfl) ?_); intro _ _ _ _ h; simp only [zE, evp, evx, ev1, evLoad, evStore, evBin, Zaa, forall_const, z38, tb, reduceAdd, reduceSub, reduceMul, reduceEqDiff, reduceLeDiff, reduceLT, Nat.reduceBEq, Nat.reduceBNe, ↓reduceIte, reduceIte] at h; obtain ⟨rfl, rfl, rfl, rfl⟩ := h; refine ⟨?_, ?_⟩) | ((with_reducible refine Ob.mk ?_); first | exact trivial | (intros; omega) | ((repeat' first | apply And.intro | (intro a; have b := a; try simp only [zH] at b)) <;> first | assumption | omega | (simp only [zH]; omega)))
  · refine Zaw rfl rfl (Zat rfl ?_ rfl)
    rw [show Zch ⟨e, n, m⟩ = -1 from if_pos hb]; rfl
  · rename_i h
    refine Zaw rfl rfl (Zat rfl ?_ rfl)
    rw [show Zch ⟨e, n, m⟩ = 1 by unfold Zch; rw [if_neg (by simp [h]), if_pos hb]]; rfl
  · rename_i h
    refine Zaw rfl rfl (Zat rfl ?_ rfl)
    rw [show Zch ⟨e, n, m⟩ = 0 by unfold Zch; rw [if_neg (by simp [h]), if_neg (by simp [hb])]]; rfl
def Zav : Spec
  | [.agg (.cons (.bool e) (.cons (.bool n) (.cons (.roI m) .nil))), .agg (.cons (.bool e') (.cons (.bool n') (.cons (.roI m') .nil))), .int .i64 pl] => some ⟨m.length ≤ 1000000 ∧ (Zch ⟨e, n, m⟩ = 0 → Zch ⟨e', n', m'⟩ = 0 → m.length ≤ m'.length), .int .i64 (cmpV pl ⟨e, n, m⟩ ⟨e', n', m'⟩), none⟩
  | _ => none
def spCo : Nat → Option Spec
  | 62 => some Zfd
  | 61 => some cmpS
  | _ => none
theorem Zci : SpOK Try.prog spCo := by
  intro f S h
  unfold spCo at h
  split at h
  · cases h; exact rank_ok
  · cases h; exact cmp_ok
  · cases h
theorem sgn_0 {a b : Int} (h : sgnI a b = 0) : a = b := by
  unfold sgnI at h
  split at h
  · cases h
  · split at h
    · cases h
    · omega
set_option maxRecDepth 4000 in
set_option maxHeartbeats 4000000 in
theorem compare_ok : Zby Try.prog 59 Zav := by
  refine Za4 htb (fn := Try.f59) (by kernel_rfl) (by kernel_rfl) rfl (fun args r hS => ?_) (fun args r hS hob hl => ?_)
  · unfold Zav at hS; split at hS <;> first | (cases hS; done) | (cases hS; exact Nat.le_of_ble_eq_true rfl)
  unfold Zav at hS
  split at hS
  case h_2 => cases hS
  rename_i e n m e' n' m' pl
  simp only [Option.some.injEq] at hS
  subst hS
  simp only [lenP, mkL, lim] at hl
  dsimp only at hob
  obtain ⟨hm6, hmm⟩ := hob
  have hC : cmpV pl ⟨e, n, m⟩ ⟨e', n', m'⟩ = if sgnI (Zch ⟨e, n, m⟩) (Zch ⟨e', n', m'⟩) ≠ 0 ∨ Zch ⟨e, n, m⟩ ≠ 0 then sgnI (Zch ⟨e, n, m⟩) (Zch ⟨e', n', m'⟩) else cmpK pl m m' m.length := rfl
  have hs0 := @sgn_0 (Zch ⟨e, n, m⟩) (Zch ⟨e', n', m'⟩)
  repeat' first
    | with_reducible first | apply Zan | apply Zaj | apply Zab | apply Zac | apply Zag | apply Zal | apply Zaf | apply Zah | apply Zam | apply Zao | apply Zak
    | ((with_reducible refine Zap ?_); refine Zai rfl ?_ ?_ <;> intro hb <;> (try simp only [zH] at hb)) | ((with_reducible refine Zaq 3 ?_ ?_); (· exact rfl); (with_reducible refine Zaq 4 ?_ ?_); (· exact rfl); (first | refine Zad htb hmz Zci fF rfl rfl ?_ | refine Zae hmo htb hmz Zci fF rfl rfl (by kernel_rfl) ?_); intro _ _ _ _ h; simp only [zE, evp, evx, ev1, evLoad, evStore, evBin, Zaa, forall_const, z38, tb, reduceAdd, reduceSub, reduceMul, reduceEqDiff, reduceLeDiff, reduceLT, Nat.reduceBEq, Nat.reduceBNe, ↓reduceIte, reduceIte, spCo, Zfd, cmpS] at h; obtain ⟨rfl, rfl, rfl, rfl⟩ := h; refine ⟨?_, ?_⟩) | ((with_reducible refine Ob.mk ?_); first | exact trivial | (intros; omega) | ((repeat' first | apply And.intro | (intro a; have b := a; try simp only [zH] at b)) <;> first | assumption | omega | (simp only [zH]; omega)))
  · repeat' first
      | with_reducible first | apply Zan | apply Zaj | apply Zab | apply Zac | apply Zag | apply Zal | apply Zaf | apply Zah | apply Zam | apply Zao | apply Zak
      | ((with_reducible refine Zap ?_); refine Zai rfl ?_ ?_ <;> intro hb <;> (try simp only [zH] at hb)) | ((with_reducible refine Zax ?_); (first | refine Zad htb hmz Zci fF rfl rfl ?_ | refine Zae hmo htb hmz Zci fF rfl rfl (by kernel_rfl) ?_); intro _ _ _ _ h; simp only [zE, evp, evx, ev1, evLoad, evStore, evBin, Zaa, forall_const, z38, tb, reduceAdd, reduceSub, reduceMul, reduceEqDiff, reduceLeDiff, reduceLT, Nat.reduceBEq, Nat.reduceBNe, ↓reduceIte, reduceIte, spCo, Zfd, cmpS] at h; obtain ⟨rfl, rfl, rfl, rfl⟩ := h; refine ⟨?_, ?_⟩) | ((with_reducible refine Ob.mk ?_); first | exact trivial | (intros; omega) | ((repeat' first | apply And.intro | (intro a; have b := a; try simp only [zH] at b)) <;> first | assumption | omega | (simp only [zH]; omega)))
    refine Zaw rfl rfl (Zat rfl ?_ rfl)
    rw [hC, if_pos hb]
    rfl
  have hr0 : Zch ⟨e, n, m⟩ = 0 := hb.2
  have hsg : sgnI (Zch ⟨e, n, m⟩) (Zch ⟨e', n', m'⟩) = 0 := hb.1
  have hr1 := hs0 hsg
  have hml := hmm hr0 (by rw [← hr1]; exact hr0)
  have hC : cmpV pl ⟨e, n, m⟩ ⟨e', n', m'⟩ = cmpK pl m m' m.length := by rw [hC, if_neg (fun h => h.elim (fun h => h hsg) (fun h => h hr0))]
  rw [hC]
  clear hC hs0 hmm hr1 hsg hr0 hb
  repeat' first
    | with_reducible first | apply Zan | apply Zaj | apply Zab | apply Zac | apply Zag | apply Zal | apply Zaf | apply Zah | apply Zam | apply Zao | apply Zak
    | ((with_reducible refine Zap ?_); refine Zai rfl ?_ ?_ <;> intro hb <;> (try simp only [zH] at hb)) | ((with_reducible refine Zax ?_); (first | refine Zad htb hmz Zci fF rfl rfl ?_ | refine Zae hmo htb hmz Zci fF rfl rfl (by kernel_rfl) ?_); intro _ _ _ _ h; simp only [zE, evp, evx, ev1, evLoad, evStore, evBin, Zaa, forall_const, z38, tb, reduceAdd, reduceSub, reduceMul, reduceEqDiff, reduceLeDiff, reduceLT, Nat.reduceBEq, Nat.reduceBNe, ↓reduceIte, reduceIte, spCo, Zfd, cmpS] at h; obtain ⟨rfl, rfl, rfl, rfl⟩ := h; refine ⟨?_, ?_⟩) | ((with_reducible refine Ob.mk ?_); first | exact trivial | (intros; omega) | ((repeat' first | apply And.intro | (intro a; have b := a; try simp only [zH] at b)) <;> first | assumption | omega | (simp only [zH]; omega)))
  refine Zau (τ := Nat) (fun k => k ≤ m.length ∧ cmpK pl m m' m.length = cmpK pl m m' k) (fun k => ⟨16, [(8, .int .i64 ((k : Int) - 1)), (4, .rop (.agg (.cons (.bool e') (.cons (.bool n') (.cons (.roI m') .nil))))), (3, .rop (.agg (.cons (.bool e) (.cons (.bool n) (.cons (.roI m) .nil))))), (2, .int .i64 pl)], [], []⟩) (fun k => k) m.length [] ?_ ⟨Nat.le_refl _, rfl⟩ ?_
  · (refine ⟨rfl, ?_, ?_⟩ <;> simp only [zE, evp, evx, ev1, evLoad, evStore, evBin, Zaa, forall_const, z38, tb, reduceAdd, reduceSub, reduceMul, reduceEqDiff, reduceLeDiff, reduceLT, Nat.reduceBEq, Nat.reduceBNe, ↓reduceIte, reduceIte, spCo, Zfd, cmpS, zI])
  rintro k ⟨hk, hck⟩
  repeat' first
    | with_reducible first | apply Zan | apply Zaj | apply Zab | apply Zac | apply Zag | apply Zal | apply Zaf | apply Zah | apply Zam | apply Zao | apply Zak
    | ((with_reducible refine Zap ?_); refine Zai rfl ?_ ?_ <;> intro hb <;> (try simp only [zH] at hb)) | ((with_reducible refine Zaq 7 ?_ ?_); (· exact rfl); (with_reducible refine Zaq 12 ?_ ?_); (· exact rfl); (first | refine Zad htb hmz Zci fF rfl rfl ?_ | refine Zae hmo htb hmz Zci fF rfl rfl (by kernel_rfl) ?_); intro _ _ _ _ h; simp only [zE, evp, evx, ev1, evLoad, evStore, evBin, Zaa, forall_const, z38, tb, reduceAdd, reduceSub, reduceMul, reduceEqDiff, reduceLeDiff, reduceLT, Nat.reduceBEq, Nat.reduceBNe, ↓reduceIte, reduceIte, spCo, Zfd, cmpS] at h; obtain ⟨rfl, rfl, rfl, rfl⟩ := h; refine ⟨?_, ?_⟩) | ((with_reducible refine Ob.mk ?_); first | exact trivial | (intros; omega) | ((repeat' first | apply And.intro | (intro a; have b := a; try simp only [zH] at b)) <;> first | assumption | omega | (simp only [zH]; omega)))
  · cases k with
    | zero => exfalso; omega
    | succ k =>
      have e1 : ((k + 1 : Nat) : Int) - 1 = (k : Int) := by omega
      rw [e1]
      have hcs : cmpK pl m m' (k + 1) = if sgnI (m.getD k 0) (m'.getD k 0) ≠ 0 then (if (k : Int) % 2 ≠ pl then -(sgnI (m.getD k 0) (m'.getD k 0)) else sgnI (m.getD k 0) (m'.getD k 0)) else cmpK pl m m' k := rfl
      have hsr : -1 ≤ sgnI (m.getD k 0) (m'.getD k 0) ∧ sgnI (m.getD k 0) (m'.getD k 0) ≤ 1 := by unfold sgnI; split <;> (try split) <;> omega
      repeat' first
        | with_reducible first | apply Zan | apply Zaj | apply Zab | apply Zac | apply Zag | apply Zal | apply Zaf | apply Zah | apply Zam | apply Zao | apply Zak
        | ((with_reducible refine Zap ?_); refine Zai rfl ?_ ?_ <;> intro hb <;> (try simp only [zH] at hb)) | ((with_reducible refine Zaq 9 ?_ ?_); (· exact rfl); (with_reducible refine Zaq 6 ?_ ?_); (· exact rfl); (first | refine Zad htb hmz Zci fF rfl rfl ?_ | refine Zae hmo htb hmz Zci fF rfl rfl (by kernel_rfl) ?_); intro _ _ _ _ h; simp only [zE, evp, evx, ev1, evLoad, evStore, evBin, Zaa, forall_const, z38, tb, reduceAdd, reduceSub, reduceMul, reduceEqDiff, reduceLeDiff, reduceLT, Nat.reduceBEq, Nat.reduceBNe, ↓reduceIte, reduceIte, spCo, Zfd, cmpS] at h; obtain ⟨rfl, rfl, rfl, rfl⟩ := h; refine ⟨?_, ?_⟩) | ((with_reducible refine Ob.mk ?_); first | exact trivial | (intros; omega) | ((repeat' first | apply And.intro | (intro a; have b := a; try simp only [zH] at b)) <;> first | assumption | omega | (simp only [zH]; omega)))
      · repeat' first
          | with_reducible first | apply Zan | apply Zaj | apply Zab | apply Zac | apply Zag | apply Zal | apply Zaf | apply Zah | apply Zam | apply Zao | apply Zak
          | ((with_reducible refine Zap ?_); refine Zai rfl ?_ ?_ <;> intro hb <;> (try simp only [zH] at hb)) | ((with_reducible refine Zax ?_); (first | refine Zad htb hmz Zci fF rfl rfl ?_ | refine Zae hmo htb hmz Zci fF rfl rfl (by kernel_rfl) ?_); intro _ _ _ _ h; simp only [zE, evp, evx, ev1, evLoad, evStore, evBin, Zaa, forall_const, z38, tb, reduceAdd, reduceSub, reduceMul, reduceEqDiff, reduceLeDiff, reduceLT, Nat.reduceBEq, Nat.reduceBNe, ↓reduceIte, reduceIte, spCo, Zfd, cmpS] at h; obtain ⟨rfl, rfl, rfl, rfl⟩ := h; refine ⟨?_, ?_⟩) | ((with_reducible refine Ob.mk ?_); first | exact trivial | (intros; omega) | ((repeat' first | apply And.intro | (intro a; have b := a; try simp only [zH] at b)) <;> first | assumption | omega | (simp only [zH]; omega)))
        · refine Zaw rfl rfl (Zat rfl ?_ rfl)
          rename_i h
          have hw : IntKind.i64.wrap (-sgnI (m.getD k 0) (m'.getD k 0)) = -sgnI (m.getD k 0) (m'.getD k 0) := by
            rcases (show sgnI (m.getD k 0) (m'.getD k 0) = -1 ∨ sgnI (m.getD k 0) (m'.getD k 0) = 0 ∨ sgnI (m.getD k 0) (m'.getD k 0) = 1 by omega) with h3 | h3 | h3 <;> rw [h3] <;> rfl
          rw [hck, hcs, if_pos h, if_pos hb, hw]; rfl
        · refine Zaw rfl rfl (Zat rfl ?_ rfl)
          rename_i h
          rw [hck, hcs, if_pos h, if_neg (fun h2 => h2 hb)]; rfl
      · have h0 : sgnI (m.getD k 0) (m'.getD k 0) = 0 := hb
        rw [if_neg (fun h => h h0)] at hcs
        repeat' first
          | with_reducible first | apply Zan | apply Zaj | apply Zab | apply Zac | apply Zag | apply Zal | apply Zaf | apply Zah | apply Zam | apply Zao | apply Zak
          | ((with_reducible refine Zap ?_); refine Zai rfl ?_ ?_ <;> intro hb <;> (try simp only [zH] at hb)) | ((with_reducible refine Zax ?_); (first | refine Zad htb hmz Zci fF rfl rfl ?_ | refine Zae hmo htb hmz Zci fF rfl rfl (by kernel_rfl) ?_); intro _ _ _ _ h; simp only [zE, evp, evx, ev1, evLoad, evStore, evBin, Zaa, forall_const, z38, tb, reduceAdd, reduceSub, reduceMul, reduceEqDiff, reduceLeDiff, reduceLT, Nat.reduceBEq, Nat.reduceBNe, ↓reduceIte, reduceIte, spCo, Zfd, cmpS] at h; obtain ⟨rfl, rfl, rfl, rfl⟩ := h; refine ⟨?_, ?_⟩) | ((with_reducible refine Ob.mk ?_); first | exact trivial | (intros; omega) | ((repeat' first | apply And.intro | (intro a; have b := a; try simp only [zH] at b)) <;> first | assumption | omega | (simp only [zH]; omega)))
        refine back k [] ?_ ⟨by omega, by rw [hck, hcs]⟩ (by omega)
        (refine ⟨rfl, ?_, ?_⟩ <;> simp only [zE, evp, evx, ev1, evLoad, evStore, evBin, Zaa, forall_const, z38, tb, reduceAdd, reduceSub, reduceMul, reduceEqDiff, reduceLeDiff, reduceLT, Nat.reduceBEq, Nat.reduceBNe, ↓reduceIte, reduceIte, spCo, Zfd, cmpS, zI])
  have hk0 : k = 0 := by omega
  subst hk0
  repeat' first
    | with_reducible first | apply Zan | apply Zaj | apply Zab | apply Zac | apply Zag | apply Zal | apply Zaf | apply Zah | apply Zam | apply Zao | apply Zak
    | ((with_reducible refine Zap ?_); refine Zai rfl ?_ ?_ <;> intro hb <;> (try simp only [zH] at hb)) | ((with_reducible refine Zax ?_); (first | refine Zad htb hmz Zci fF rfl rfl ?_ | refine Zae hmo htb hmz Zci fF rfl rfl (by kernel_rfl) ?_); intro _ _ _ _ h; simp only [zE, evp, evx, ev1, evLoad, evStore, evBin, Zaa, forall_const, z38, tb, reduceAdd, reduceSub, reduceMul, reduceEqDiff, reduceLeDiff, reduceLT, Nat.reduceBEq, Nat.reduceBNe, ↓reduceIte, reduceIte, spCo, Zfd, cmpS] at h; obtain ⟨rfl, rfl, rfl, rfl⟩ := h; refine ⟨?_, ?_⟩) | ((with_reducible refine Ob.mk ?_); first | exact trivial | (intros; omega) | ((repeat' first | apply And.intro | (intro a; have b := a; try simp only [zH] at b)) <;> first | assumption | omega | (simp only [zH]; omega)))
  refine Zaw rfl rfl (Zat rfl ?_ rfl)
  rw [hck]
  rfl
def Zdz : Spec
  | [.agg (.cons (.bool e) (.cons (.bool n) (.cons (.roI m) .nil))), .int .i64 p] => some ⟨e = false → n = false → (m.length ≤ 1000000 ∧ 0 ≤ p ∧ p < m.length ∧ 0 ≤ m.getD p.toNat 0 ∧ m.getD p.toNat 0 ≤ 1000000000000), .agg (.cons (.bool (Zd9 ⟨e, n, m⟩ p.toNat).e) (.cons (.bool (Zd9 ⟨e, n, m⟩ p.toNat).n) (.cons (.roI (Zd9 ⟨e, n, m⟩ p.toNat).m) .nil))), none⟩
  | _ => none
set_option maxRecDepth 4000 in
set_option maxHeartbeats 4000000 in
theorem plus_ok : Zby Try.prog 60 Zdz := by
  refine Za4 htb (fn := Try.f60) (by kernel_rfl) (by kernel_rfl) rfl (fun args r hS => ?_) (fun args r hS hob hl => ?_)
  · unfold Zdz at hS; split at hS <;> first | (cases hS; done) | (cases hS; exact Nat.le_of_ble_eq_true rfl)
  unfold Zdz at hS
  split at hS
  case h_2 => cases hS
  rename_i e n m p
  simp only [Option.some.injEq] at hS
  subst hS
  simp only [lenP, mkL, lim] at hl
  dsimp only at hob
  repeat' first
    | with_reducible first | apply Zan | apply Zaj | apply Zab | apply Zac | apply Zag | apply Zal | apply Zaf | apply Zah | apply Zam | apply Zao | apply Zak
    | ((with_reducible refine Zap ?_); refine Zai rfl ?_ ?_ <;> intro hb <;> (try simp only [zH] at hb)) | ((with_reducible refine Zaq 2 ?_ ?_); (· exact rfl); (with_reducible refine Zaq 3 ?_ ?_); (· exact rfl); (first | refine Zad htb hmz noSp fF rfl rfl ?_ | refine Zae hmo htb hmz noSp fF rfl rfl (by kernel_rfl) ?_); intro _ _ _ _ h; simp only [zE, evp, evx, ev1, evLoad, evStore, evBin, Zaa, forall_const, z38, tb, reduceAdd, reduceSub, reduceMul, reduceEqDiff, reduceLeDiff, reduceLT, Nat.reduceBEq, Nat.reduceBNe, ↓reduceIte, reduceIte] at h; obtain ⟨rfl, rfl, rfl, rfl⟩ := h; refine ⟨?_, ?_⟩) | ((with_reducible refine Ob.mk ?_); first | exact trivial | (intros; omega) | ((repeat' first | apply And.intro | (intro a; have b := a; try simp only [zH] at b)) <;> first | assumption | omega | (simp only [zH]; omega)))
  · repeat' first
      | with_reducible first | apply Zan | apply Zaj | apply Zab | apply Zac | apply Zag | apply Zal | apply Zaf | apply Zah | apply Zam | apply Zao | apply Zak
      | ((with_reducible refine Zap ?_); refine Zai rfl ?_ ?_ <;> intro hb <;> (try simp only [zH] at hb)) | ((with_reducible refine Zax ?_); (first | refine Zad htb hmz noSp fF rfl rfl ?_ | refine Zae hmo htb hmz noSp fF rfl rfl (by kernel_rfl) ?_); intro _ _ _ _ h; simp only [zE, evp, evx, ev1, evLoad, evStore, evBin, Zaa, forall_const, z38, tb, reduceAdd, reduceSub, reduceMul, reduceEqDiff, reduceLeDiff, reduceLT, Nat.reduceBEq, Nat.reduceBNe, ↓reduceIte, reduceIte] at h; obtain ⟨rfl, rfl, rfl, rfl⟩ := h; refine ⟨?_, ?_⟩) | ((with_reducible refine Ob.mk ?_); first | exact trivial | (intros; omega) | ((repeat' first | apply And.intro | (intro a; have b := a; try simp only [zH] at b)) <;> first | assumption | omega | (simp only [zH]; omega)))
    refine Zaw rfl rfl (Zat rfl ?_ rfl)
    rw [show Zd9 ⟨e, n, m⟩ p.toNat = ⟨e, n, m⟩ from if_pos hb]
    rfl
  have he : e = false := by cases e with | false => rfl | true => simp at hb
  have hne : n = false := by cases n with | false => rfl | true => simp at hb
  subst he hne
  obtain ⟨h1, h2, h3, h4, h5⟩ := hob rfl rfl
  (refine Zad htb hmz noSp (fun i => Nat.beq i 0) rfl rfl ?_; intro _ _ _ _ h; simp only [zE, evp, evx, ev1, evLoad, evStore, evBin, Zaa, forall_const, z38, tb, reduceAdd, reduceSub, reduceMul, reduceEqDiff, reduceLeDiff, reduceLT, Nat.reduceBEq, Nat.reduceBNe, ↓reduceIte, reduceIte] at h; obtain ⟨rfl, rfl, rfl, rfl⟩ := h; refine ⟨?_, ?_⟩)
  · first | ((with_reducible refine Ob.mk ?_); first | exact trivial | (intros; omega) | ((repeat' first | apply And.intro | (intro a; have b := a; try simp only [zH] at b)) <;> first | assumption | omega | (simp only [zH]; omega))) | skip
  refine Zab ?_
  repeat' first
    | with_reducible first | apply Zan | apply Zaj | apply Zab | apply Zac | apply Zag | apply Zal | apply Zaf | apply Zah | apply Zam | apply Zao | apply Zak
    | ((with_reducible refine Zap ?_); refine Zai rfl ?_ ?_ <;> intro hb <;> (try simp only [zH] at hb)) | ((with_reducible refine Zaq 5 ?_ ?_); (· exact rfl); (first | refine Zad htb hmz noSp fF rfl rfl ?_ | refine Zae hmo htb hmz noSp fF rfl rfl (by kernel_rfl) ?_); intro _ _ _ _ h; simp only [zE, evp, evx, ev1, evLoad, evStore, evBin, Zaa, forall_const, z38, tb, reduceAdd, reduceSub, reduceMul, reduceEqDiff, reduceLeDiff, reduceLT, Nat.reduceBEq, Nat.reduceBNe, ↓reduceIte, reduceIte] at h; obtain ⟨rfl, rfl, rfl, rfl⟩ := h; refine ⟨?_, ?_⟩) | ((with_reducible refine Ob.mk ?_); first | exact trivial | (intros; omega) | ((repeat' first | apply And.intro | (intro a; have b := a; try simp only [zH] at b)) <;> first | assumption | omega | (simp only [zH]; omega)))
  refine Za9 11 (.roI (m.set p.toNat (m.getD p.toNat 0 + 1))) (by simp only [Zar, Zas, fzE, fzA, fzR, fzB, set1, nbeq, reduceEqDiff, decide_true, decide_false, ↓reduceIte, reduceIte, cond_true, cond_false, List.take_length, Option.some.injEq]; rfl) (by first | exact rfl | (refine ⟨?_, rfl⟩; first | rfl | (intros; rfl))) (by simp only [Zar, Zas, fzE, fzA, fzR, fzB, set1, nbeq, reduceEqDiff, decide_true, decide_false, ↓reduceIte, reduceIte, cond_true, cond_false, List.take_length, Option.some.injEq]; rfl) (by simp only [Zar, Zas, fzE, fzA, fzR, fzB, set1, nbeq, reduceEqDiff, decide_true, decide_false, ↓reduceIte, reduceIte, cond_true, cond_false, List.take_length, Option.some.injEq]; rfl) ?_
  repeat' first
    | with_reducible first | apply Zan | apply Zaj | apply Zab | apply Zac | apply Zag | apply Zal | apply Zaf | apply Zah | apply Zam | apply Zao | apply Zak
    | ((with_reducible refine Zap ?_); refine Zai rfl ?_ ?_ <;> intro hb <;> (try simp only [zH] at hb)) | ((with_reducible refine Zax ?_); (first | refine Zad htb hmz noSp fF rfl rfl ?_ | refine Zae hmo htb hmz noSp fF rfl rfl (by kernel_rfl) ?_); intro _ _ _ _ h; simp only [zE, evp, evx, ev1, evLoad, evStore, evBin, Zaa, forall_const, z38, tb, reduceAdd, reduceSub, reduceMul, reduceEqDiff, reduceLeDiff, reduceLT, Nat.reduceBEq, Nat.reduceBNe, ↓reduceIte, reduceIte] at h; obtain ⟨rfl, rfl, rfl, rfl⟩ := h; refine ⟨?_, ?_⟩) | ((with_reducible refine Ob.mk ?_); first | exact trivial | (intros; omega) | ((repeat' first | apply And.intro | (intro a; have b := a; try simp only [zH] at b)) <;> first | assumption | omega | (simp only [zH]; omega)))
  refine Zaw rfl rfl (Zat rfl ?_ rfl)
  rfl
open Go Pl
def VOK (K : Nat) (D : Int) (v : Vl) : Prop := v.m.length ≤ 1000000 ∧ (Zch v = 0 → v.m.length = K ∧ ∀ q, 0 ≤ v.m.getD q 0 ∧ v.m.getD q 0 ≤ D)
def minV (pl : Int) (l : Nat → Vl) (row : List Int) : Vl := row.foldl (fun out w => if cmpV pl (l w.toNat) out < 0 then l w.toNat else out) ⟨true, false, []⟩
def bhV (o p : List Int) (x : List (List Int)) (pl : Int) (st : Vl) (ch : List Int) (l : Nat → Vl) (v : Nat) : Vl :=
  Zd9 (if o.getD v 0 = pl then (if ch.getD v 0 < 0 then st else l (ch.getD v 0).toNat) else minV pl l (x.getD v [])) (p.getD v 0).toNat
theorem min_next {pl : Int} {l : Nat → Vl} {row : List Int} {i : Nat} (h : i < row.length) : minV pl l (row.take (i + 1)) = if cmpV pl (l (row.getD i 0).toNat) (minV pl l (row.take i)) < 0 then l (row.getD i 0).toNat else minV pl l (row.take i) := by
  unfold minV
  rw [Zf7 (d := 0) h, List.foldl_append]; rfl
theorem Zj7 {pl : Int} {l : Nat → Vl} {K : Nat} {D : Int} : ∀ {row : List Int}, (∀ w, w ∈ row → VOK K D (l w.toNat)) → VOK K D (minV pl l row) := by
  intro row
  unfold minV
  generalize h0 : (⟨true, false, []⟩ : Vl) = out
  have hout : VOK K D out := by
    rw [← h0]
    refine ⟨by simp, fun h => ?_⟩
    simp [Zch] at h
  clear h0
  induction row generalizing out with
  | nil => intro _; exact hout
  | cons a row ih =>
    intro h
    rw [List.foldl_cons]
    refine ih _ ?_ fun w hw => h w (List.mem_cons_of_mem _ hw)
    split
    · exact h a List.mem_cons_self
    · exact hout
theorem Zhl {K : Nat} {D : Int} {v : Vl} {q : Nat} (h : VOK K D v) (hq : q < K) : v.e = false → v.n = false → v.m.length ≤ 1000000 ∧ q < v.m.length ∧ 0 ≤ v.m.getD q 0 ∧ v.m.getD q 0 ≤ D := fun he hn => by
  have hr : Zch v = 0 := by unfold Zch; rw [if_neg (by simp [hn]), if_neg (by simp [he])]
  obtain ⟨h1, h2⟩ := h.2 hr
  exact ⟨h.1, by omega, h2 q⟩
noncomputable def spBh : Nat → Option Spec
  | 59 => some Zav
  | 60 => some Zdz
  | _ => none
theorem Zbv : SpOK Try.prog spBh := by
  intro f S h
  unfold spBh at h
  split at h
  · cases h; exact compare_ok
  · cases h; exact plus_ok
  · cases h
set_option maxRecDepth 4000 in
set_option maxHeartbeats 4000000 in
theorem behind_fg {o p : List Int} {x : List (List Int)} {pl : Int} {st : Vl} {ls : List Bool} {ch : List Int} {l : Nat → Vl} {K v : Nat} {D : Int} (hn : o.length ≤ 20000) (hpl : p.length = o.length) (hxl : x.length = o.length) (hcl : ch.length = o.length) (hv : v < o.length) (hD : D ≤ 1000000000000)
    (hp : 0 ≤ p.getD v 0 ∧ (p.getD v 0).toNat < K) (hch : ch.getD v 0 < o.length) (hvo : ∀ u, u < o.length → VOK K D (l u)) (hst : VOK K D st) (hr : (x.getD v []).length ≤ 64 ∧ ∀ j, j < (x.getD v []).length → 0 ≤ (x.getD v []).getD j 0 ∧ (x.getD v []).getD j 0 < (o.length : Int)) :
    FG Try.prog 58 [.agg (.cons (.roI o) (.cons (.roI p) (.cons (.roII x) (.cons (.int .i64 pl) (.cons (.bool st.e) (.cons (.bool st.n) (.cons (.roI st.m) (.cons (.roB ls) (.cons (.own 1) .nil))))))))), .own 0, .int .i64 v] [(0, some (.avs 3 o.length fun j => vlA (l j))), (1, some (.ints ch))] 2
      fun g => g = ⟨2, vlA (bhV o p x pl st ch l v), [(0, some (.avs 3 o.length fun j => vlA (l j))), (1, some (.ints ch))]⟩ := by
  refine Zf1 htb (fn := Try.f58) (by kernel_rfl) (by kernel_rfl) rfl (Nat.le_of_ble_eq_true rfl) fun hl => ?_
  simp only [lenP, mkL, lim] at hl
  have hbh : ∀ b, (if o.getD v 0 = pl then (if ch.getD v 0 < 0 then st else l (ch.getD v 0).toNat) else minV pl l (x.getD v [])) = b → bhV o p x pl st ch l v = Zd9 b (p.getD v 0).toNat := fun b h => by unfold bhV; rw [h]
  repeat' first
    | with_reducible first | apply Zan | apply Zaj | apply Zab | apply Zac | apply Zag | apply Zal | apply Zaf | apply Zah | apply Zam | apply Zao | apply Zak
    | ((with_reducible refine Zap ?_); refine Zai rfl ?_ ?_ <;> intro hb <;> (try simp only [zH] at hb)) | ((with_reducible refine Zaq 2 ?_ ?_); (· exact rfl); (with_reducible refine Zaq 5 ?_ ?_); (· exact rfl); (first | refine Zad htb hmz Zbv fF rfl rfl ?_ | refine Zae hmo htb hmz Zbv fF rfl rfl (by kernel_rfl) ?_); intro _ _ _ _ h; simp only [zE, evp, evx, ev1, evLoad, evStore, evBin, Zaa, forall_const, z38, tb, reduceAdd, reduceSub, reduceMul, reduceEqDiff, reduceLeDiff, reduceLT, Nat.reduceBEq, Nat.reduceBNe, ↓reduceIte, reduceIte, spBh, Zav, Zdz, vlA] at h; obtain ⟨rfl, rfl, rfl, rfl⟩ := h; refine ⟨?_, ?_⟩) | ((with_reducible refine Ob.mk ?_); first | exact trivial | (intros; omega) | ((repeat' first | apply And.intro | (intro a; have b := a; try simp only [zH] at b)) <;> first | (with_reducible exact True.intro) | assumption | omega | (simp only [zH]; omega)))
  · have ho := hb
    clear hb
    repeat' first
      | with_reducible first | apply Zan | apply Zaj | apply Zab | apply Zac | apply Zag | apply Zal | apply Zaf | apply Zah | apply Zam | apply Zao | apply Zak
      | ((with_reducible refine Zap ?_); refine Zai rfl ?_ ?_ <;> intro hb <;> (try simp only [zH] at hb)) | ((with_reducible refine Zaq 3 ?_ ?_); (· exact rfl); (with_reducible refine Zaq 4 ?_ ?_); (· exact rfl); (first | refine Zad htb hmz Zbv fF rfl rfl ?_ | refine Zae hmo htb hmz Zbv fF rfl rfl (by kernel_rfl) ?_); intro _ _ _ _ h; simp only [zE, evp, evx, ev1, evLoad, evStore, evBin, Zaa, forall_const, z38, tb, reduceAdd, reduceSub, reduceMul, reduceEqDiff, reduceLeDiff, reduceLT, Nat.reduceBEq, Nat.reduceBNe, ↓reduceIte, reduceIte, spBh, Zav, Zdz, vlA] at h; obtain ⟨rfl, rfl, rfl, rfl⟩ := h; refine ⟨?_, ?_⟩) | ((with_reducible refine Ob.mk ?_); first | exact trivial | (intros; omega) | ((repeat' first | apply And.intro | (intro a; have b := a; try simp only [zH] at b)) <;> first | (with_reducible exact True.intro) | assumption | omega | (simp only [zH]; omega)))
    · have hb1 := hbh st (by rw [if_pos ho, if_pos hb])
      have hpo := Zhl hst hp.2
      rw [hb1]
      repeat' first
        | with_reducible first | apply Zan | apply Zaj | apply Zab | apply Zac | apply Zag | apply Zal | apply Zaf | apply Zah | apply Zam | apply Zao | apply Zak
        | ((with_reducible refine Zap ?_); refine Zai rfl ?_ ?_ <;> intro hb <;> (try simp only [zH] at hb)) | ((with_reducible refine Zax ?_); (first | refine Zad htb hmz Zbv fF rfl rfl ?_ | refine Zae hmo htb hmz Zbv fF rfl rfl (by kernel_rfl) ?_); intro _ _ _ _ h; simp only [zE, evp, evx, ev1, evLoad, evStore, evBin, Zaa, forall_const, z38, tb, reduceAdd, reduceSub, reduceMul, reduceEqDiff, reduceLeDiff, reduceLT, Nat.reduceBEq, Nat.reduceBNe, ↓reduceIte, reduceIte, spBh, Zav, Zdz, vlA] at h; obtain ⟨rfl, rfl, rfl, rfl⟩ := h; refine ⟨?_, ?_⟩) | ((with_reducible refine Ob.mk ?_); first | exact trivial | (intros; omega) | ((repeat' first | apply And.intro | (intro a; have b := a; try simp only [zH] at b)) <;> first | (with_reducible exact True.intro) | assumption | omega | (simp only [zH]; omega)))
      · refine Ob.mk ⟨⟨by omega, by omega⟩, fun he hn2 => ?_⟩
        obtain ⟨a1, a2, a3, a4⟩ := hpo he hn2
        exact ⟨a1, by omega, by omega, a3, by omega⟩
      refine Zaw rfl rfl (Zd7 (⟨2, vlA (Zd9 st (p.getD v 0).toNat), [(0, some (.avs 3 o.length fun j => vlA (l j))), (1, some (.ints ch))]⟩) ([]) rfl rfl (Zbr rfl) ?_)
      simp only [grR, zE, evp, evx, ev1, evLoad, evStore, evBin, Zaa, forall_const, z38, tb, reduceAdd, reduceSub, reduceMul, reduceEqDiff, reduceLeDiff, reduceLT, Nat.reduceBEq, Nat.reduceBNe, ↓reduceIte, reduceIte, spBh, Zav, Zdz, vlA]
    · have hb1 := hbh (l (ch.getD v 0).toNat) (by rw [if_pos ho, if_neg (by omega)])
      have hcv : (ch.getD v 0).toNat < o.length := by omega
      have hpo := Zhl (hvo _ hcv) hp.2
      rw [hb1]
      repeat' first
        | with_reducible first | apply Zan | apply Zaj | apply Zab | apply Zac | apply Zag | apply Zal | apply Zaf | apply Zah | apply Zam | apply Zao | apply Zak
        | ((with_reducible refine Zap ?_); refine Zai rfl ?_ ?_ <;> intro hb <;> (try simp only [zH] at hb)) | ((with_reducible refine Zax ?_); (first | refine Zad htb hmz Zbv fF rfl rfl ?_ | refine Zae hmo htb hmz Zbv fF rfl rfl (by kernel_rfl) ?_); intro _ _ _ _ h; simp only [zE, evp, evx, ev1, evLoad, evStore, evBin, Zaa, forall_const, z38, tb, reduceAdd, reduceSub, reduceMul, reduceEqDiff, reduceLeDiff, reduceLT, Nat.reduceBEq, Nat.reduceBNe, ↓reduceIte, reduceIte, spBh, Zav, Zdz, vlA] at h; obtain ⟨rfl, rfl, rfl, rfl⟩ := h; refine ⟨?_, ?_⟩) | ((with_reducible refine Ob.mk ?_); first | exact trivial | (intros; omega) | ((repeat' first | apply And.intro | (intro a; have b := a; try simp only [zH] at b)) <;> first | (with_reducible exact True.intro) | assumption | omega | (simp only [zH]; omega)))
      · refine Ob.mk ⟨⟨⟨⟨⟨⟨by omega, by omega⟩, by omega⟩, by omega, by omega⟩, by omega⟩, by omega, by omega⟩, fun he hn2 => ?_⟩
        obtain ⟨a1, a2, a3, a4⟩ := hpo he hn2
        exact ⟨a1, by omega, by omega, a3, by omega⟩
      refine Zaw rfl rfl (Zd7 (⟨2, vlA (Zd9 (l (ch.getD v 0).toNat) (p.getD v 0).toNat), [(0, some (.avs 3 o.length fun j => vlA (l j))), (1, some (.ints ch))]⟩) ([]) rfl rfl (Zbr rfl) ?_)
      simp only [grR, zE, evp, evx, ev1, evLoad, evStore, evBin, Zaa, forall_const, z38, tb, reduceAdd, reduceSub, reduceMul, reduceEqDiff, reduceLeDiff, reduceLT, Nat.reduceBEq, Nat.reduceBNe, ↓reduceIte, reduceIte, spBh, Zav, Zdz, vlA]
  have ho : ¬ o.getD v 0 = pl := hb
  clear hb
  have hb1 := hbh (minV pl l (x.getD v [])) (by rw [if_neg ho])
  have hmk : ∀ i, i ≤ (x.getD v []).length → VOK K D (minV pl l ((x.getD v []).take i)) := fun i hi => Zj7 fun w hw => by
    obtain ⟨j, hj, rfl⟩ := Zcq (List.mem_of_mem_take hw)
    have := hr.2 j hj
    exact hvo _ (by omega)
  have hmn := fun i => @min_next pl l (x.getD v []) i
  have hm0 : minV pl l ((x.getD v []).take 0) = ⟨true, false, []⟩ := rfl
  have hma : minV pl l ((x.getD v []).take (x.getD v []).length) = minV pl l (x.getD v []) := by rw [List.take_length]
  rw [hb1]
  clear hbh hb1
  repeat' first
    | with_reducible first | apply Zan | apply Zaj | apply Zab | apply Zac | apply Zag | apply Zal | apply Zaf | apply Zah | apply Zam | apply Zao | apply Zak
    | ((with_reducible refine Zap ?_); refine Zai rfl ?_ ?_ <;> intro hb <;> (try simp only [zH] at hb)) | ((with_reducible refine Zax ?_); (first | refine Zad htb hmz Zbv fF rfl rfl ?_ | refine Zae hmo htb hmz Zbv fF rfl rfl (by kernel_rfl) ?_); intro _ _ _ _ h; simp only [zE, evp, evx, ev1, evLoad, evStore, evBin, Zaa, forall_const, z38, tb, reduceAdd, reduceSub, reduceMul, reduceEqDiff, reduceLeDiff, reduceLT, Nat.reduceBEq, Nat.reduceBNe, ↓reduceIte, reduceIte, spBh, Zav, Zdz, vlA] at h; obtain ⟨rfl, rfl, rfl, rfl⟩ := h; refine ⟨?_, ?_⟩) | ((with_reducible refine Ob.mk ?_); first | exact trivial | (intros; omega) | ((repeat' first | apply And.intro | (intro a; have b := a; try simp only [zH] at b)) <;> first | (with_reducible exact True.intro) | assumption | omega | (simp only [zH]; omega)))
  refine awp_nro 14 rfl rfl ?_
  generalize x.getD v [] = rw at *
  refine Zau (τ := Nat) (fun i => i ≤ rw.length) (fun i => ⟨24, [(57, .int .i64 i), (56, .int .i64 rw.length), (55, .roI rw), (7, .own 14), (6, .own 3), (3, .own 2), (1, .own 0), (2, .int .i64 v)], [(0, some (.avs 3 o.length fun j => vlA (l j))), (1, some (.ints ch)), (2, some (.box (.agg (.cons (.roI o) (.cons (.roI p) (.cons (.roII x) (.cons (.int .i64 pl) (.cons (.bool st.e) (.cons (.bool st.n) (.cons (.roI st.m) (.cons (.roB ls) (.cons (.own 1) .nil)))))))))))), (3, some (.box (.agg (.cons (.bool false) (.cons (.bool false) (.cons (.cst (.slice none 0 0)) .nil)))))), (14, some (.box (vlA (minV pl l (rw.take i)))))], []⟩) (fun i => rw.length - i) 0 [] ?_ (Nat.zero_le _) ?_
  · (refine ⟨rfl, ?_, ?_⟩ <;> simp only [zE, evp, evx, ev1, evLoad, evStore, evBin, Zaa, forall_const, z38, tb, reduceAdd, reduceSub, reduceMul, reduceEqDiff, reduceLeDiff, reduceLT, Nat.reduceBEq, Nat.reduceBNe, ↓reduceIte, reduceIte, spBh, Zav, Zdz, vlA, zI])
    rw [hm0]
    rfl
  intro i hi
  have hmk1 := hmk i hi
  have hmn1 := hmn i
  have hr1 := hr.2 i
  clear hmk hmn
  repeat' first
    | with_reducible first | apply Zan | apply Zaj | apply Zab | apply Zac | apply Zag | apply Zal | apply Zaf | apply Zah | apply Zam | apply Zao | apply Zak
    | ((with_reducible refine Zap ?_); refine Zai rfl ?_ ?_ <;> intro hb <;> (try simp only [zH] at hb)) | ((with_reducible refine Zaq 9 ?_ ?_); (· exact rfl); (with_reducible refine Zaq 12 ?_ ?_); (· exact rfl); (first | refine Zad htb hmz Zbv fF rfl rfl ?_ | refine Zae hmo htb hmz Zbv fF rfl rfl (by kernel_rfl) ?_); intro _ _ _ _ h; simp only [zE, evp, evx, ev1, evLoad, evStore, evBin, Zaa, forall_const, z38, tb, reduceAdd, reduceSub, reduceMul, reduceEqDiff, reduceLeDiff, reduceLT, Nat.reduceBEq, Nat.reduceBNe, ↓reduceIte, reduceIte, spBh, Zav, Zdz, vlA] at h; obtain ⟨rfl, rfl, rfl, rfl⟩ := h; refine ⟨?_, ?_⟩) | ((with_reducible refine Ob.mk ?_); first | exact trivial | (intros; omega) | ((repeat' first | apply And.intro | (intro a; have b := a; try simp only [zH] at b)) <;> first | (with_reducible exact True.intro) | assumption | omega | (simp only [zH]; omega)))
  · have hil : i < rw.length := by omega
    obtain ⟨c1, c2⟩ := hr1 hil
    have hmn1 := hmn1 hil
    have hw : (rw.getD i 0).toNat < o.length := by omega
    have hv1 := hvo _ hw
    generalize minV pl l (rw.take i) = mn at *
    generalize rw.getD i 0 = w at *
    repeat' first
      | with_reducible first | apply Zan | apply Zaj | apply Zab | apply Zac | apply Zag | apply Zal | apply Zaf | apply Zah | apply Zam | apply Zao | apply Zak
      | ((with_reducible refine Zap ?_); refine Zai rfl ?_ ?_ <;> intro hb <;> (try simp only [zH] at hb)) | ((with_reducible refine Zaq 10 ?_ ?_); (· exact rfl); (with_reducible refine Zaq 11 ?_ ?_); (· exact rfl); (first | refine Zad htb hmz Zbv fF rfl rfl ?_ | refine Zae hmo htb hmz Zbv fF rfl rfl (by kernel_rfl) ?_); intro _ _ _ _ h; simp only [zE, evp, evx, ev1, evLoad, evStore, evBin, Zaa, forall_const, z38, tb, reduceAdd, reduceSub, reduceMul, reduceEqDiff, reduceLeDiff, reduceLT, Nat.reduceBEq, Nat.reduceBNe, ↓reduceIte, reduceIte, spBh, Zav, Zdz, vlA] at h; obtain ⟨rfl, rfl, rfl, rfl⟩ := h; refine ⟨?_, ?_⟩) | ((with_reducible refine Ob.mk ?_); first | exact trivial | (intros; omega) | ((repeat' first | apply And.intro | (intro a; have b := a; try simp only [zH] at b)) <;> first | (with_reducible exact True.intro) | assumption | omega | (simp only [zH]; omega)))
    · refine Ob.mk ⟨⟨⟨by omega, by omega⟩, by omega⟩, hv1.1, fun h1 h2 => ?_⟩
      rw [(hv1.2 h1).1, (hmk1.2 h2).1]
      exact Nat.le_refl _
    · rw [if_pos hb] at hmn1
      repeat' first
        | with_reducible first | apply Zan | apply Zaj | apply Zab | apply Zac | apply Zag | apply Zal | apply Zaf | apply Zah | apply Zam | apply Zao | apply Zak
        | ((with_reducible refine Zap ?_); refine Zai rfl ?_ ?_ <;> intro hb <;> (try simp only [zH] at hb)) | ((with_reducible refine Zax ?_); (first | refine Zad htb hmz Zbv fF rfl rfl ?_ | refine Zae hmo htb hmz Zbv fF rfl rfl (by kernel_rfl) ?_); intro _ _ _ _ h; simp only [zE, evp, evx, ev1, evLoad, evStore, evBin, Zaa, forall_const, z38, tb, reduceAdd, reduceSub, reduceMul, reduceEqDiff, reduceLeDiff, reduceLT, Nat.reduceBEq, Nat.reduceBNe, ↓reduceIte, reduceIte, spBh, Zav, Zdz, vlA] at h; obtain ⟨rfl, rfl, rfl, rfl⟩ := h; refine ⟨?_, ?_⟩) | ((with_reducible refine Ob.mk ?_); first | exact trivial | (intros; omega) | ((repeat' first | apply And.intro | (intro a; have b := a; try simp only [zH] at b)) <;> first | (with_reducible exact True.intro) | assumption | omega | (simp only [zH]; omega)))
      refine back (i + 1) [] ?_ (by omega) (by omega)
      (refine ⟨rfl, ?_, ?_⟩ <;> simp only [zE, evp, evx, ev1, evLoad, evStore, evBin, Zaa, forall_const, z38, tb, reduceAdd, reduceSub, reduceMul, reduceEqDiff, reduceLeDiff, reduceLT, Nat.reduceBEq, Nat.reduceBNe, ↓reduceIte, reduceIte, spBh, Zav, Zdz, vlA, zI])
      rw [hmn1]
      exact ⟨rfl, rfl, rfl⟩
    · rw [if_neg (Int.not_lt.2 hb)] at hmn1
      repeat' first
        | with_reducible first | apply Zan | apply Zaj | apply Zab | apply Zac | apply Zag | apply Zal | apply Zaf | apply Zah | apply Zam | apply Zao | apply Zak
        | ((with_reducible refine Zap ?_); refine Zai rfl ?_ ?_ <;> intro hb <;> (try simp only [zH] at hb)) | ((with_reducible refine Zax ?_); (first | refine Zad htb hmz Zbv fF rfl rfl ?_ | refine Zae hmo htb hmz Zbv fF rfl rfl (by kernel_rfl) ?_); intro _ _ _ _ h; simp only [zE, evp, evx, ev1, evLoad, evStore, evBin, Zaa, forall_const, z38, tb, reduceAdd, reduceSub, reduceMul, reduceEqDiff, reduceLeDiff, reduceLT, Nat.reduceBEq, Nat.reduceBNe, ↓reduceIte, reduceIte, spBh, Zav, Zdz, vlA] at h; obtain ⟨rfl, rfl, rfl, rfl⟩ := h; refine ⟨?_, ?_⟩) | ((with_reducible refine Ob.mk ?_); first | exact trivial | (intros; omega) | ((repeat' first | apply And.intro | (intro a; have b := a; try simp only [zH] at b)) <;> first | (with_reducible exact True.intro) | assumption | omega | (simp only [zH]; omega)))
      refine back (i + 1) [] ?_ (by omega) (by omega)
      (refine ⟨rfl, ?_, ?_⟩ <;> simp only [zE, evp, evx, ev1, evLoad, evStore, evBin, Zaa, forall_const, z38, tb, reduceAdd, reduceSub, reduceMul, reduceEqDiff, reduceLeDiff, reduceLT, Nat.reduceBEq, Nat.reduceBNe, ↓reduceIte, reduceIte, spBh, Zav, Zdz, vlA, zI])
      rw [hmn1]
      exact ⟨rfl, rfl, rfl⟩
  have hie : i = rw.length := by omega
  subst hie
  rw [hma] at hmk1 ⊢
  have hpo := Zhl hmk1 hp.2
  repeat' first
    | with_reducible first | apply Zan | apply Zaj | apply Zab | apply Zac | apply Zag | apply Zal | apply Zaf | apply Zah | apply Zam | apply Zao | apply Zak
    | ((with_reducible refine Zap ?_); refine Zai rfl ?_ ?_ <;> intro hb <;> (try simp only [zH] at hb)) | ((with_reducible refine Zax ?_); (first | refine Zad htb hmz Zbv fF rfl rfl ?_ | refine Zae hmo htb hmz Zbv fF rfl rfl (by kernel_rfl) ?_); intro _ _ _ _ h; simp only [zE, evp, evx, ev1, evLoad, evStore, evBin, Zaa, forall_const, z38, tb, reduceAdd, reduceSub, reduceMul, reduceEqDiff, reduceLeDiff, reduceLT, Nat.reduceBEq, Nat.reduceBNe, ↓reduceIte, reduceIte, spBh, Zav, Zdz, vlA] at h; obtain ⟨rfl, rfl, rfl, rfl⟩ := h; refine ⟨?_, ?_⟩) | ((with_reducible refine Ob.mk ?_); first | exact trivial | (intros; omega) | ((repeat' first | apply And.intro | (intro a; have b := a; try simp only [zH] at b)) <;> first | (with_reducible exact True.intro) | assumption | omega | (simp only [zH]; omega)))
  · refine Ob.mk ⟨⟨by omega, by omega⟩, fun he hn2 => ?_⟩
    obtain ⟨a1, a2, a3, a4⟩ := hpo he hn2
    exact ⟨a1, by omega, by omega, a3, by omega⟩
  refine Zaw rfl rfl (Zd7 (⟨2, vlA (Zd9 (minV pl l rw) (p.getD v 0).toNat), [(0, some (.avs 3 o.length fun j => vlA (l j))), (1, some (.ints ch))]⟩) ([]) rfl rfl (Zbr rfl) ?_)
  simp only [grR, zE, evp, evx, ev1, evLoad, evStore, evBin, Zaa, forall_const, z38, tb, reduceAdd, reduceSub, reduceMul, reduceEqDiff, reduceLeDiff, reduceLT, Nat.reduceBEq, Nat.reduceBNe, ↓reduceIte, reduceIte, spBh, Zav, Zdz, vlA]
end Go.Proofs.Ytbcghiagomkadaa.Cal
