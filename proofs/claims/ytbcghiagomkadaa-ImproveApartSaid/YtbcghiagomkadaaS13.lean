/- Own texts of the proof, merged, in order. -/
import Derived.Test.YtbcghiagomkadaaS12
set_option linter.unusedVariables false
set_option linter.unusedSimpArgs false
namespace Go.Proofs.Ytbcghiagomkadaa.Cal
open Go
section
variable {P : Program} {ro : Option Nat} {N κ : Nat} {tb : Nat → Option TI}
def awpG (P : Program) (ro : Option Nat) (N κ : Nat) (ops : Array Oper) (l : List Oper) (σ : St) (Q : Exit → St → Prop) : Prop :=
  ∀ n K Z ν w a, Good K Z N w ν σ a → wpListIn (FF ro) n P ops (Post N κ K Z w ν Q) l a w
theorem awp_listG {id : Nat} {l : List Oper} {σ : St} {Q : Exit → St → Prop} (h : awpG P ro N κ l.toArray l σ Q) : awp P ro N κ (.region id l.toArray false) σ Q :=
  fun n K Z ν w a hg => wpIn_region_lit (h n K Z ν w a hg)
theorem awpG_nil {ops : Array Oper} {σ : St} {Q : Exit → St → Prop} (h : Q .normal σ) : awpG P ro N κ ops [] σ Q := fun n K Z ν w a hg => post_now hg h
def noGd (o : Oper) : Oper := { o with guard := none }
theorem awpG_one {ops : Array Oper} {o : Oper} {rest : List Oper} {σ : St} {Q : Exit → St → Prop} (hw : ∀ K Z ν w a, Good K Z N w ν σ a → Region.wanted o (yielded ops a.tmps) = true)
    (h : awpL P ro N κ [noGd o] σ (thenQ (fun s => awpG P ro N κ ops rest s Q) Q)) : awpG P ro N κ ops (o :: rest) σ Q := by
  intro n K Z ν w a hg
  have h1 := h n K Z ν w a hg
  have hw1 : Region.wanted (noGd o) (yielded #[] a.tmps) = true := wanted_none rfl _
  simp only [wpListIn, hw1, if_true] at h1
  simp only [wpListIn, hw K Z ν w a hg, if_true]
  have h2 : o.wpIn (FF ro) n P a w (fun a' w' => Post N κ K Z w ν (thenQ (fun s => awpG P ro N κ ops rest s Q) Q) .normal a' w') (Post N κ K Z w ν (thenQ (fun s => awpG P ro N κ ops rest s Q) Q)) := h1
  refine oper_mono (fun a' w' hp => ?_) (fun e a' w' he hp => ?_) h2
  · obtain ⟨Z', ν', σ', g1, g2, g3, g4⟩ := hp
    exact wpList_mono (fun e a2 w2 hp => hp.trans g1 g2) (g4 n _ _ ν' w' a' g3)
  · obtain ⟨Z', ν', σ', g1, g2, g3, g4⟩ := hp
    refine ⟨Z', ν', σ', g1, g2, g3, ?_⟩
    cases e <;> first | exact absurd rfl he | exact g4
theorem tmp_bool {K Z : Nat → Prop} {w : World} {ν : Nat → Value} {σ : St} {a : Act} {d : Nat} {b : Bool} (hg : Good K Z N w ν σ a) (h : σ.env d = .bool b) : a.tmps[d]? = some (.bool b) := by
  have := (hg.env d).2
  rw [h] at this
  have h2 : a.tmps.getD d undef = .bool b := one1 this
  rw [Array.getD_eq_getD_getElem?] at h2
  cases e : a.tmps[d]? with
  | none => rw [e] at h2; cases h2
  | some v => rw [e] at h2; simp only [Option.getD_some] at h2; rw [h2]
theorem wanted_of {K Z : Nat → Prop} {w : World} {ν : Nat → Value} {σ : St} {a : Act} {ops : Array Oper} {o oi : Oper} {i d : Nat} {b v : Bool} (hg : Good K Z N w ν σ a) (ho : o.guard = some (i, b)) (hi : ops[i]? = some oi) (hd : oi.dst = some d) (h : σ.env d = .bool v) : Region.wanted o (yielded ops a.tmps) = (v == b) := by
  have e : yielded ops a.tmps i = some v := by
    unfold yielded
    rw [hi]
    simp only [Option.bind_some, hd, tmp_bool hg h]
  unfold Region.wanted
  rw [ho]
  simp only [e]
  cases v <;> cases b <;> rfl
theorem awpG_free {ops : Array Oper} {o : Oper} {rest : List Oper} {σ : St} {Q : Exit → St → Prop} (ho : o.guard = none) (h : awpL P ro N κ [noGd o] σ (thenQ (fun s => awpG P ro N κ ops rest s Q) Q)) : awpG P ro N κ ops (o :: rest) σ Q :=
  awpG_one (fun K Z ν w a hg => wanted_none (by rw [ho]; rfl) _) h
theorem awpG_yes {ops : Array Oper} {o oi : Oper} {rest : List Oper} {m : Nat} {env : List (Nat × AV)} {rs : List (Nat × Option Blk)} {ms : List Nat} {Q : Exit → St → Prop} {i d : Nat} {b : Bool} (ho : o.guard = some (i, b)) (hi : ops[i]? = some oi) (hd : oi.dst = some d) (hv : lke env d = .bool b)
    (h : awpL P ro N κ [noGd o] (CS.st ⟨m, env, rs, ms⟩) (thenQ (fun s => awpG P ro N κ ops rest s Q) Q)) : awpG P ro N κ ops (o :: rest) (CS.st ⟨m, env, rs, ms⟩) Q :=
  awpG_one (fun K Z ν w a hg => by rw [wanted_of hg ho hi hd hv]; cases b <;> rfl) h
theorem awpG_no {ops : Array Oper} {o oi : Oper} {rest : List Oper} {m : Nat} {env : List (Nat × AV)} {rs : List (Nat × Option Blk)} {ms : List Nat} {Q : Exit → St → Prop} {i d : Nat} {b : Bool} (ho : o.guard = some (i, b)) (hi : ops[i]? = some oi) (hd : oi.dst = some d) (hv : lke env d = .bool (!b)) (hN : dstOK N [o] = true)
    (h : awpG P ro N κ ops rest (CS.st ⟨m, putE o.dst (.whn false (.bool false)) env, rs, ms⟩) Q) : awpG P ro N κ ops (o :: rest) (CS.st ⟨m, env, rs, ms⟩) Q := by
  intro n K Z ν w a hg
  have hw : Region.wanted o (yielded ops a.tmps) = false := by rw [wanted_of hg ho hi hd hv]; cases b <;> rfl
  simp only [wpListIn, hw]
  refine ⟨fun f hf => trivial, ?_⟩
  have hd' : ∀ d, o.dst = some d → d < N := fun d hd2 => by
    simp [dstOK, hd2] at hN; exact hN
  have hg2 := Good.setd (v := .whn false (.bool false)) (y := undef) hg hd' ⟨(fun h => by cases h), fun _ => rfl⟩ rfl
  refine h n K Z ν w _ ?_
  rw [show CS.st ⟨m, putE o.dst (.whn false (.bool false)) env, rs, ms⟩ = ⟨ltK m, lke (putE o.dst (.whn false (.bool false)) env), lkr rs, ms⟩ from rfl, putE_lke]
  exact hg2
def sV (M : Nat) : List (Nat × Option Blk) → Prop
  | [] => True
  | (k, some b) :: l => (Nat.blt k M = true ∧ menB (ltK M) b) ∧ sV M l
  | (k, none) :: l => sV M l
theorem sV_mem {M : Nat} : ∀ {l : List (Nat × Option Blk)}, sV M l → ∀ k b, lkr l k = some b → k < M ∧ menB (ltK M) b
  | [], _, k, b, hk => by cases hk
  | (j, some c) :: l, h, k, b, hk => by
    rw [lkr_cons] at hk
    by_cases e : k = j
    · rw [if_pos e] at hk
      rw [e, ← Option.some.inj hk]
      exact ⟨by have := h.1.1; rwa [Nat.blt_eq] at this, h.1.2⟩
    · rw [if_neg e] at hk; exact sV_mem h.2 k b hk
  | (j, none) :: l, h, k, b, hk => by
    rw [lkr_cons] at hk
    by_cases e : k = j
    · rw [if_pos e] at hk; cases hk
    · rw [if_neg e] at hk; exact sV_mem (l := l) h k b hk
end
end Go.Proofs.Ytbcghiagomkadaa.Cal
namespace Go.Proofs.Ytbcghiagomkadaa.Cal
open Go
/-- A function that yields numbers with lists, with what it captured (c, no memory of anybody's own): key 1 whatever else; go: there is a round to come; L: the lists that may come with it; nx: what it leads to; X: a round left the loop. -/
def IterU (P : Program) (gf : Nat) (c : AV) {τ : Type} (I X : τ → Prop) (hd : τ → Int) (L : τ → List Int → Prop) (go : τ → Prop) (nx : τ → τ → Prop) (st fin : τ → Prop) : Prop :=
  ∀ (A : Bool → τ → SemA)
    (hY : ∀ t li, I t → go t → L t li → YCall P [.int .i64 (hd t), .roI li] [(1, some (.sem [0] (A true t)))] 2
      (fun g => ∃ b t', (b = true → I t' ∧ nx t t') ∧ (b = false → X t') ∧ g = ⟨2, .bool b, [(1, some (.sem [0] (A b t')))]⟩))
    (t0 : τ) (h0 : I t0) (hi0 : st t0),
    FG P gf [.yld 0, c] [(1, some (.sem [0] (A true t0)))] 2
      (fun g => ∃ b t', (b = true → I t' ∧ fin t') ∧ (b = false → X t') ∧ g = ⟨2, resV [], [(1, some (.sem [0] (A b t')))]⟩)
section
variable {P : Program} {ro : Option Nat} {N κ : Nat} {tb : Nat → Option TI}
/-- One round, as yield's contract. -/
theorem round_yieldsU {τ : Type} {I X : τ → Prop} {hd : τ → Int} {go : τ → Prop} {nx : τ → τ → Prop} {lv : Lv} {S : τ → List (Nat × Option Blk)} {M m p p2 fn lp D : Nat} {li : List Int} {L : τ → List Int → Prop} {env : List (Nat × AV)} {assign body : Code} {w : World} {Z : Nat → Prop} {ν : Nat → Value} {a : Act} {rc : Loop}
    (hrc : rc = { state := .ready, pending := none, fn, tmps := a.tmps, params := #[p, p2], assign, body, defers := D }) (hp : p < N) (hp2 : p2 < N) (hsz : a.tmps.size = N) (hmM : m ≤ M) (hlD : lp ≠ D)
    (henv : ∀ s, men (ltK m) (lke env s) = true ∧ R Z w (lke env s) ν true [a.tmps.getD s undef])
    (hS : ∀ t k b, I t ∨ X t → lkr (S t) k = some b → k < M ∧ menB (ltK M) b)
    (round : ∀ t li, I t → go t → L t li → awp P (some lp) N m assign (CS.st ⟨M, (p2, .roI li) :: (p, .int .i64 (hd t)) :: env, S t, []⟩) (fun e s => e = .normal ∧ awp P (some lp) N m body s (roundV m I X nx lv S M t)))
    (t : τ) (ht : I t) (hi : go t) (hli : L t li) :
    YCall P [.int .i64 (hd t), .roI li] [(1, some (.sem [0] (ASemV w Z ν m lp D (rcEnd rc lv true) (S t))))] 2
      (fun g => ∃ b t', (b = true → I t' ∧ nx t t') ∧ (b = false → X t') ∧ g = ⟨2, .bool b, [(1, some (.sem [0] (ASemV w Z ν m lp D (rcEnd rc lv b) (S t'))))]⟩) := by
  intro n K1 Z1 ν1 w1 vals l hone hvals hG hzk hkl hl
  obtain ⟨F1, hF1⟩ := hG
  obtain ⟨_, _, s1, s2, s3⟩ := hF1 1 (.sem [0] (ASemV w Z ν m lp D (rcEnd rc lv true) (S t))) rfl
  obtain ⟨a1, a2, a3, a4, a5, a6, ν', G, a7, a8, a9⟩ := ASemV_of s1
  have e0 : ν1 0 = .map (some lp) := by injection a1
  obtain rfl : l = lp := by rw [hl] at e0; injection e0 with h; injection h
  obtain ⟨v, vs, hvv, r1, v2, vs2, hvs, r2, r3⟩ := hvals
  have r1 := one1 r1
  have r3 : vs2 = [] := r3
  subst r1 r3 hvs
  have hvals2 : vals = #[.int .i64 (hd t), v2] := by rw [← Array.toList_inj, hvv]
  subst hrc
  have a5 : w1.heap[l]? = some (.loop { state := .ready, pending := none, fn := fn, tmps := a.tmps, params := #[p, p2], assign := assign, body := body, defers := D }) := a5
  have hy := run_yield (P := P) (args := vals) a5 (by rw [hvals2]; rfl)
  have htm : ∀ (T : Array Value) (v : Value), ((#[p, p2] : Array Tmp).zip #[v, v2]).foldl (fun tmps (x : Tmp × Value) => tmps.setIfInBounds x.1 x.2) T = (T.setIfInBounds p v).setIfInBounds p2 v2 := fun T v => by simp
  refine ⟨_, _, _, _, hy, roundIn_of_wpIn trivial ?_⟩
  have htm2 := htm a.tmps (.int .i64 (hd t))
  rw [← hvals2] at htm2
  have hlz : ¬ Z1 l := fun h => (s2 l a3).1 (hzk l h)
  have hDz : ¬ Z1 D := fun h => (s2 D a4).1 (hzk D h)
  -- the round's own view
  have hgood : Good (fun b => K1 b ∨ b = l ∨ b = D) Z1 N w1 ν' (CS.st ⟨M, (p2, .roI li) :: (p, .int .i64 (hd t)) :: env, S t, []⟩) { tmps := (a.tmps.setIfInBounds p (.int .i64 (hd t))).setIfInBounds p2 v2, defers := [] } := by
    have hνm : ∀ k, ltK m k = true → ν' k = ν k := fun k hk => by
      rw [ltK, Nat.blt_eq] at hk
      exact a8 k hk
    refine ⟨by simp [hsz], a7, fun s => ?_, ?_, fun b hb => .inl (hzk b hb), fun b hb => ?_, rfl, fun k hk => by cases hk⟩
    · show men (ltK M) (lke ((p2, _) :: (p, _) :: env) s) = true ∧ R Z1 w1 (lke ((p2, _) :: (p, _) :: env) s) _ true _
      rw [lke_cons]
      by_cases hs2 : s = p2
      · subst hs2
        simp only [if_true]
        refine ⟨rfl, ?_⟩
        have : ((a.tmps.setIfInBounds p (.int .i64 (hd t))).setIfInBounds s v2).getD s undef = v2 := by
          simp [Array.getD_eq_getD_getElem?, hsz, hp2]
        show R Z1 w1 _ _ true [((a.tmps.setIfInBounds p (.int .i64 (hd t))).setIfInBounds s v2).getD s undef]
        rw [this]
        exact R_free rfl r2
      rw [if_neg hs2, lke_cons]
      have e2 : ((a.tmps.setIfInBounds p (.int .i64 (hd t))).setIfInBounds p2 v2).getD s undef = (a.tmps.setIfInBounds p (.int .i64 (hd t))).getD s undef := by
        simp [Array.getD_eq_getD_getElem?, Array.getElem?_setIfInBounds, Ne.symm hs2]
      by_cases hs : s = p
      · subst hs
        simp only [if_true]
        refine ⟨rfl, ?_⟩
        show [((a.tmps.setIfInBounds s (.int .i64 (hd t))).setIfInBounds p2 v2).getD s undef] = [_]
        rw [e2]
        simp [Array.getD_eq_getD_getElem?, hsz, hp]
      · simp only [if_neg hs]
        obtain ⟨g1, g2⟩ := henv s
        refine ⟨men_le (fun k hk => by simp only [ltK, Nat.blt_eq] at hk ⊢; omega) g1, ?_⟩
        have : (a.tmps.setIfInBounds p (.int .i64 (hd t))).getD s undef = a.tmps.getD s undef := by
          simp [Array.getD_eq_getD_getElem?, Array.getElem?_setIfInBounds, Ne.symm hs]
        show R Z1 w1 (lke env s) _ true [((a.tmps.setIfInBounds p (.int .i64 (hd t))).setIfInBounds p2 v2).getD s undef]
        rw [e2, this]
        exact R_nu hνm g1 (R_mono (fun y hy => (a2 y hy).1) (fun y hy => (a2 y hy).2) g2)
    · refine ⟨G, fun k b hk => ?_⟩
      obtain ⟨b1, b2⟩ := hS t k b (.inl ht) hk
      obtain ⟨c1, c2, c3⟩ := a9 k b hk
      refine ⟨by show Nat.blt k M = true; rw [Nat.blt_eq]; exact b1, b2, c1, fun x hx => ?_, fun k' b' hne hk' => c3 k' b' hne hk'⟩
      obtain ⟨d1, d2, d3⟩ := c2 x hx
      obtain ⟨f1, f2⟩ := s2 x d1
      exact ⟨fun h => h.elim f1 fun h => h.elim d2 d3, f2⟩
    · rcases hb with h | rfl | rfl
      · exact hkl b h
      · exact (Array.getElem?_eq_some_iff.1 a5).1
      · exact (Array.getElem?_eq_some_iff.1 a6).1
  have hasg := round t li ht hi hli n _ Z1 _ w1 _ hgood
  have hasg2 : assign.wpIn ((FF none).inRound l) n P _ { tmps := (a.tmps.setIfInBounds p (.int .i64 (hd t))).setIfInBounds p2 v2, defers := [] } w1 := hasg
  rw [← htm2] at hasg2
  refine wpIn_mono hasg2 ?_
  rintro e a2' w2 ⟨Z2, ν2, σ2, st2, nu2, good2, rfl, hbody⟩
  -- the round begins
  have hl2 : w2.heap[l]? = _ := (st2.ext.block l (.inr (.inl rfl))).trans a5
  have hZl : ∀ {Zx : Nat → Prop} {wx : World}, Step (fun b => K1 b ∨ b = l ∨ b = D) Z1 w1 Zx wx → ¬ Zx l ∧ ¬ Zx D := fun h =>
    ⟨fun hz => (h.new l hz).elim hlz fun h => h (.inr (.inl rfl)), fun hz => (h.new D hz).elim hDz fun h => h (.inr (.inr rfl))⟩
  refine ⟨_, run_beginRound hl2 rfl, ?_⟩
  have good3 := good2.put (r := l) (o := .loop { state := .busy, pending := none, fn := fn, tmps := a.tmps, params := #[p, p2], assign := assign, body := body, defers := D }) (.inl (.inr (.inl rfl))) (hZl st2).1
  have hb := hbody n _ _ _ _ _ good3
  refine wpIn_mono (show body.wpIn ((FF none).inRound l) n P _ a2' _ from hb) ?_
  rintro e a3' w3 ⟨Z3, ν3, σ3, st3, nu3, good4, cs, t', ρ, rfl, hle, hfate⟩
  have hKl : ∀ b, (K1 b ∨ b = l ∨ b = D) → un (fun b => K1 b ∨ b = l ∨ b = D) Z2 b := fun b h => .inl h
  have hl3 : w3.heap[l]? = some (.loop { state := .busy, pending := none, fn := fn, tmps := a.tmps, params := #[p, p2], assign := assign, body := body, defers := D }) :=
    (st3.ext.block l (hKl l (.inr (.inl rfl)))).trans (World.putObj_heap_same (Array.getElem?_eq_some_iff.1 hl2).1)
  have hD3 : w3.heap[D]? = some (.deferred (some [])) :=
    (st3.ext.block D (hKl D (.inr (.inr rfl)))).trans ((World.putObj_heap_other (Ne.symm hlD)).trans ((st2.ext.block D (.inr (.inr rfl))).trans a6))
  -- which end
  obtain ⟨bb, hbb⟩ : ∃ bb : Bool, (bb = true → e = .normal ∧ I t' ∧ nx t t') ∧ (bb = false → e = lv.e ∧ X t') := by
    rcases hfate with h | h
    · exact ⟨true, (fun _ => h), fun h => by cases h⟩
    · exact ⟨false, (fun h => by cases h), fun _ => h⟩
  have hIX : I t' ∨ X t' := by
    rcases hfate with h | h
    · exact .inl h.2.1
    · exact .inr h.2
  suffices hres : ∀ (o : Loop), o = rcEnd { state := .ready, pending := none, fn := fn, tmps := a.tmps, params := #[p, p2], assign := assign, body := body, defers := D } lv bb →
      ∃ (y : Value) (Z' : Nat → Prop) (νr : Nat → Value) (g : GR), Ending.returned (Value.bool bb) = .returned y ∧ Step K1 Z1 w1 Z' (w3.putObj l (.loop o)) ∧ (∀ k, (νr k).oneCell' = true) ∧ (∀ k, k < 2 → νr k = ν1 k) ∧ R Z' (w3.putObj l (.loop o)) g.val νr true [y] ∧ men (ltK g.m) g.val = true ∧ GoodRs (un K1 Z') Z' (w3.putObj l (.loop o)) νr (ltK g.m) (lkr g.rs) ∧ (∀ b, Z' b → b < (w3.putObj l (.loop o)).heap.size) ∧
        (∃ b t'', (b = true → I t'' ∧ nx t t'') ∧ (b = false → X t'') ∧ g = ⟨2, .bool b, [(1, some (.sem [0] (ASemV w Z ν m l D (rcEnd { state := .ready, pending := none, fn := fn, tmps := a.tmps, params := #[p, p2], assign := assign, body := body, defers := D } lv b) (S t''))))]⟩) ∧ 2 ≤ g.m by
    cases bb with
    | true =>
      obtain ⟨rfl, hI, hN⟩ := hbb.1 rfl
      exact ⟨_, _, run_endRound none hl3, hres _ rfl⟩
    | false =>
      obtain ⟨rfl, hX⟩ := hbb.2 rfl
      cases lv with
      | ret => exact ⟨_, _, run_endRound (some .ret) hl3, hres _ rfl⟩
      | exit id => exact ⟨_, _, run_endRound (some (.exit id)) hl3, hres _ rfl⟩
  intro o ho
  have hle2 := Good.le good4 (le_of ρ hle.chk hle.env hle.rs)
  obtain ⟨H, hH⟩ := hle2.rs
  have hid := (le_of ρ hle.chk hle.env hle.rs).id
  -- the step from the round's begin to its end
  have hK1 : ∀ b, K1 b → b ≠ l ∧ b ≠ D := fun b hb => ⟨fun e => (s2 l a3).1 (e ▸ hb), fun e => (s2 D a4).1 (e ▸ hb)⟩
  have hstep : Step K1 Z1 w1 Z3 (w3.putObj l (.loop o)) := by
    refine ⟨⟨st3.ext.os.trans st2.ext.os, st3.ext.tape.trans st2.ext.tape, st3.ext.output.trans st2.ext.output, ?_, fun b hb => ?_⟩, fun b hb => st3.le b (st2.le b hb), fun b hb => ?_⟩
    · have h1 := st2.ext.size
      have h2 := st3.ext.size
      rw [World.putObj_size] at h2 ⊢
      omega
    · exact (World.putObj_heap_other (hK1 b hb).1).trans ((st3.ext.block b (hKl b (.inl hb))).trans ((World.putObj_heap_other (hK1 b hb).1).trans (st2.ext.block b (.inl hb))))
    · rcases st3.new b hb with h | h
      · rcases st2.new b h with h | h
        · exact .inl h
        · exact .inr fun hk => h (.inl hk)
      · exact .inr fun hk => h (.inl (.inl hk))
  have hz3 : ¬ Z3 l ∧ ¬ Z3 D := by
    refine ⟨fun h => ?_, fun h => ?_⟩
    · rcases st3.new l h with h | h
      · exact (hZl st2).1 h
      · exact h (hKl l (.inr (.inl rfl)))
    · rcases st3.new D h with h | h
      · exact (hZl st2).2 h
      · exact h (hKl D (.inr (.inr rfl)))
  have n5 : ∀ k, k < m → ν3 (rhoL ρ k) = ν k := fun k hk => by
    rw [hid k hk, nu3 k hk, nu2 k hk]
    exact a8 k hk
  have hout : ∀ k b, lkr (S t') k = some b → ∀ x, H k x → ¬ un K1 Z3 x ∧ x < w3.heap.size ∧ x ≠ l ∧ x ≠ D := fun k b hk x hx => by
    obtain ⟨_, _, _, h2, _⟩ := hH k b hk
    obtain ⟨h3, h4⟩ := h2 x hx
    refine ⟨fun h => h3 ?_, h4, fun e => h3 ?_, fun e => h3 ?_⟩
    · rcases h with h | h
      · exact .inl (hKl x (.inl h))
      · exact .inr h
    · exact .inl (hKl x (.inr (.inl e)))
    · exact .inl (hKl x (.inr (.inr e)))
  have hput : ∀ x, x ≠ l → (w3.putObj l (.loop o)).heap[x]? = w3.heap[x]? := fun x hx => World.putObj_heap_other hx
  have hZput : ∀ x, Z3 x → (w3.putObj l (.loop o)).heap[x]? = w3.heap[x]? := fun x hx => hput x (fun e => hz3.1 (e ▸ hx))
  have hlt3 : l < w3.heap.size := (Array.getElem?_eq_some_iff.1 hl3).1
  have hDt3 : D < w3.heap.size := (Array.getElem?_eq_some_iff.1 hD3).1
  refine ⟨.bool bb, Z3, fun k => if k < 2 then ν1 k else .nilFunc, ⟨2, .bool bb, [(1, some (.sem [0] (ASemV w Z ν m l D (rcEnd _ lv bb) (S t'))))]⟩, rfl, hstep, fun k => ?_, fun k hk => if_pos hk, rfl, rfl, ?_, fun b hb => ?_, ⟨bb, t', fun h => (hbb.1 h).2, fun h => (hbb.2 h).2, rfl⟩, Nat.le_refl _⟩
  · dsimp only
    split
    · exact hone k
    · rfl
  · refine ⟨fun k => fun x => x = l ∨ x = D ∨ ∃ k b, lkr (S t') k = some b ∧ H k x, fun k b hk => ?_⟩
    have hc : k = 1 ∧ b = .sem [0] (ASemV w Z ν m l D (rcEnd { state := .ready, pending := none, fn := fn, tmps := a.tmps, params := #[p, p2], assign := assign, body := body, defers := D } lv bb) (S t')) := by
      rw [lkr_cons] at hk
      by_cases h1 : k = 1
      · rw [if_pos h1] at hk; exact ⟨h1, (Option.some.inj hk).symm⟩
      · rw [if_neg h1] at hk; cases hk
    obtain ⟨rfl, rfl⟩ := hc
    have hlD1 : (¬ un K1 Z3 l ∧ l < w3.heap.size) ∧ (¬ un K1 Z3 D ∧ D < w3.heap.size) := by
      refine ⟨⟨?_, hlt3⟩, ⟨?_, hDt3⟩⟩
      · rintro (h | h)
        · exact (hK1 l h).1 rfl
        · exact hz3.1 h
      · rintro (h | h)
        · exact (hK1 D h).2 rfl
        · exact hz3.2 h
    refine ⟨rfl, ?_, ?_, fun x hx => ?_, fun k' b' hne hk' x hx hx' => ?_⟩
    · intro j hj
      simp only [List.mem_cons, List.not_mem_nil, or_false] at hj
      rw [hj]; rfl
    · refine sat_ASemV (νc := fun k => if k < 2 then ν1 k else .nilFunc) ⟨?_, fun y hy => ⟨?_, ?_⟩, .inl rfl, .inr (.inl rfl), ?_, (hput D (Ne.symm hlD)).trans hD3, fun k => ν3 (rhoL ρ k), H, hle2.one, n5, fun k b hk => ?_⟩
      · show [ν1 0] = _
        exact a1
      · exact hstep.le y (a2 y hy).1
      · exact (hstep.ext.block y (hzk y (a2 y hy).1)).trans (a2 y hy).2
      · rw [← ho]; exact World.putObj_heap_same hlt3
      · obtain ⟨_, _, g1, g2, g3⟩ := hH k b hk
        exact ⟨sat_mono (fun _ h => h) hZput (fun x hx => hput x (hout k b hk x hx).2.2.1) g1, fun x hx => ⟨.inr (.inr ⟨k, b, hk, hx⟩), (hout k b hk x hx).2.2⟩, fun k' b' hne hk' => g3 k' b' hne hk'⟩
    · rw [World.putObj_size]
      rcases hx with rfl | rfl | ⟨k2, b2, h2, h⟩
      · exact hlD1.1
      · exact hlD1.2
      · exact ⟨(hout k2 b2 h2 x h).1, (hout k2 b2 h2 x h).2.1⟩
    · rw [lkr_cons] at hk'
      by_cases h1 : k' = 1
      · exact hne h1.symm
      · rw [if_neg h1] at hk'; cases hk'
  · rw [World.putObj_size]
    exact hle2.kl b (hle2.zk b hb)
/-- The loop over a function that hands out numbers. -/
theorem awp_rangeU {gOp : Operand} {p p2 gf m M : Nat} {c : AV} {assign body : Code} {env : List (Nat × AV)} {Q : Exit → St → Prop} {τ : Type} (I X : τ → Prop) (hd : τ → Int) (L : τ → List Int → Prop) (go : τ → Prop) (nx : τ → τ → Prop) (st fin : τ → Prop) (lv : Lv) (S : τ → List (Nat × Option Blk)) (ms : List Nat) (t0 : τ)
    (hIter : IterU P gf c I X hd L go nx st fin) (h0 : I t0) (hi0 : st t0) (hu : men noK c = true)
    (hgo : opv (lke env) gOp = .fn gf (.cons c .nil)) (hp : Nat.blt p N = true) (hp2 : Nat.blt p2 N = true) (hmM : Nat.ble m M = true) (hκ : Nat.ble κ m = true) (hmen : menE m env = true) (hms : ∀ k, k ∈ ms → Nat.blt k m = true)
    (hS : ∀ t k b, I t ∨ X t → lkr (S t) k = some b → k < M ∧ menB (ltK M) b)
    (round : ∀ lp t li, I t → go t → L t li → awp P (some lp) N m assign (CS.st ⟨M, (p2, .roI li) :: (p, .int .i64 (hd t)) :: env, S t, []⟩) (fun e s => e = .normal ∧ awp P (some lp) N m body s (roundV m I X nx lv S M t)))
    (next : ∀ t, I t → fin t → Q .normal (CS.st ⟨M + 1, env, (M, some .dfr) :: S t, M :: ms⟩))
    (left : ∀ t, X t → Q lv.e (CS.st ⟨M + 1, env, (M, some .dfr) :: S t, M :: ms⟩)) :
    awp P none N κ (.rangeFunc gOp #[p, p2] assign body) (CS.st ⟨M, env, S t0, ms⟩) Q := by
  rw [Nat.blt_eq] at hp hp2
  have hmM := Nat.le_of_ble_eq_true hmM
  have hκ := Nat.le_of_ble_eq_true hκ
  intro n K Z ν w a hg
  refine wpIn_rangeFunc ?_
  intro fn _
  obtain ⟨rc, hrc⟩ : ∃ rc : Loop, rc = { state := .ready, pending := none, fn, tmps := a.tmps, params := #[p, p2], assign, body, defers := w.heap.size } := ⟨_, rfl⟩
  obtain ⟨W1, hW1⟩ : ∃ W1, (w.alloc (.deferred (some []))).alloc (.loop rc) = W1 := ⟨_, rfl⟩
  have hs1 : W1.heap.size = w.heap.size + 2 := by rw [← hW1, World.size_alloc, World.size_alloc]
  have hL1 : W1.heap[w.heap.size + 1]? = some (.loop rc) := by
    rw [← hW1]; have := World.alloc_heap_new (w.alloc (.deferred (some []))) (.loop rc); rwa [World.size_alloc] at this
  have hD1 : W1.heap[w.heap.size]? = some (.deferred (some [])) := by
    rw [← hW1]; exact (heap_alloc0 _ _ _ (by rw [World.size_alloc]; omega)).trans (World.alloc_heap_new w _)
  have hold : ∀ b, b < w.heap.size → W1.heap[b]? = w.heap[b]? := fun b hb => by
    rw [← hW1]; exact (heap_alloc0 _ _ _ (by rw [World.size_alloc]; omega)).trans (heap_alloc0 _ _ _ hb)
  have hos : W1.os = w.os ∧ W1.tape = w.tape ∧ W1.output = w.output := by rw [← hW1]; exact ⟨rfl, rfl, rfl⟩
  have hev := opv_R hg gOp
  rw [show opv (CS.st ⟨M, env, S t0, ms⟩).env gOp = _ from hgo] at hev
  obtain ⟨cv, ecv, rcv⟩ := hev
  have ecv := one1 ecv
  obtain ⟨vb, vs, hcv, rb, rn⟩ := rcv
  have rn : vs = [] := rn
  subst rn hcv
  have henv : ∀ s, men (ltK m) (lke env s) = true ∧ R Z w (lke env s) ν true [a.tmps.getD s undef] := fun s => ⟨menE_lke hmen s, (hg.env s).2⟩
  have hds : a.defers = ms.flatMap (fun k => markOf (ν k)) := hg.ds
  have hFG := hIter (fun b t => ASemV w Z ν m (w.heap.size + 1) w.heap.size (rcEnd rc lv b) (S t))
    (fun t li ht hi hli => round_yieldsU hrc hp hp2 hg.size (by omega) (by omega) henv (fun t k b ht hk => hS t k b ht hk) (fun t li ht hi hl => round _ t li ht hi hl) t ht hi hli) t0 h0 hi0
  obtain ⟨⟨fn', hfn', hname, hbody⟩, hcall⟩ := hFG
  have eg : ∀ args w, (callFunc gf args).run P w = .ok (.enter gf args) w := by
    intro args w
    simp [callFunc, hfn', Sem.run_bind, Result.andThen, Sem.run, program]
    have hname' : ¬ fn'.name = "runtime.NumGoroutine" := by simpa using hname
    cases hb : fn'.body with
    | none => rw [hb] at hbody; cases hbody
    | some c => simp [hname', hb, Sem.run]
  obtain ⟨Ft, hF⟩ := id hg.rs
  have hKz : ∀ b, Z b → b < w.heap.size := fun b hb => hg.kl b (hg.zk b hb)
  have hsat : ∀ k b, lkr (S t0) k = some b → sat Z W1 ν (ν k) (Ft k) b := fun k b hk => by
    obtain ⟨_, _, h3, h4, _⟩ := hF k b hk
    exact sat_mono (fun _ h => h) (fun x hx => hold x (hKz x hx)) (fun x hx => hold x (h4 x hx).2) h3
  have hdis : ∀ x, ∀ k b, lkr (S t0) k = some b → Ft k x → ¬ K x ∧ x < w.heap.size := fun x k b hk hx => (hF k b hk).2.2.2.1 x hx
  have hcl := hcall K Z (fun j => if j = 0 then .map (some (w.heap.size + 1)) else .nilFunc) W1 #[.func (.yield (w.heap.size + 1)) #[] #[], vb]
    (fun k => by
      split <;> rfl)
    ⟨_, _, rfl, ⟨w.heap.size + 1, rfl, rfl⟩, _, _, rfl, R_free hu (R_mono (fun _ h => h) (fun y hy => hold y (hKz y hy)) rb), rfl⟩ (by show (men (ltK 2) (.yld 0) && (men (ltK 2) c && men (ltK 2) .nil)) = true; rw [men_free hu]; rfl)
    (by
      refine ⟨fun k => fun x => x = w.heap.size + 1 ∨ x = w.heap.size ∨ ∃ k b, lkr (S t0) k = some b ∧ Ft k x, fun k b hk => ?_⟩
      obtain ⟨rfl, rfl⟩ := cases1 hk
      refine ⟨rfl, ?_, ?_, fun x hx => ?_, fun k' b' hne hk' x hx hx' => hne (cases1 hk').1.symm⟩
      · intro j hj
        rw [List.mem_singleton.1 hj]; rfl
      · refine sat_ASemV (νc := fun j => if j = 0 then .map (some (w.heap.size + 1)) else .nilFunc) ⟨rfl, fun y hy => ⟨hy, hold y (hKz y hy)⟩, .inl rfl, .inr (.inl rfl), hL1, hD1, ν, Ft, hg.one, fun _ _ => rfl, fun k b hk => ?_⟩
        refine ⟨hsat k b hk, fun x hx => ⟨.inr (.inr ⟨k, b, hk, hx⟩), ?_, ?_⟩, fun k' b' hne hk' => (hF k b hk).2.2.2.2 k' b' hne hk'⟩
        · have := (hdis x k b hk hx).2; omega
        · have := (hdis x k b hk hx).2; omega
      · have hKs : ∀ x, K x → x < w.heap.size := hg.kl
        rcases hx with h | h | ⟨k2, b2, h2, h⟩
        · exact ⟨fun hk => by have := hKs x hk; omega, by omega⟩
        · exact ⟨fun hk => by have := hKs x hk; omega, by omega⟩
        · exact ⟨(hdis x _ _ h2 h).1, by have := (hdis x _ _ h2 h).2; omega⟩)
    hg.zk (fun b hb => by rw [hs1]; have := hg.kl b hb; omega)
  refine ⟨w.heap.size + 1, [{ target := .collected w.heap.size, args := #[] }], W1, { target := .fn (.func gf) [vb].toArray, args := #[.func (.yield (w.heap.size + 1)) #[] #[]] }, W1, gf, #[.func (.yield (w.heap.size + 1)) #[] #[]] ++ [vb].toArray, W1, ?_, ?_, ?_, ?_, (fun h => by cases h), ?_⟩
  · rw [← hW1, hrc]; exact run_enterLoop_outer _ _ _ _ _
  · simp only [resolve, ecv]
    simp [go_sem]
  · intro f' _; exact trivial
  · simp [invoke, go_sem, eg]
  refine CallsIn.mono (ff_calls hcl) ?_
  rintro e W' ⟨y, Z', ν', v, μ', rs', rfl, hst, h1', hν, _, hr', hm', ⟨Fn, hFn⟩, hz, g, ⟨bb, t', hbt, hbf, rfl⟩, rfl, rfl, _, rfl⟩
  obtain ⟨_, _, s1, s2, s3⟩ := hFn 1 (.sem [0] (ASemV w Z ν m (w.heap.size + 1) w.heap.size (rcEnd rc lv bb) (S t'))) rfl
  obtain ⟨a1, a2, a3, a4, a5, a6, νA, G, a7, a8, a9⟩ := ASemV_of s1
  have hIX : I t' ∨ X t' := by
    cases bb with
    | true => exact .inl (hbt rfl).1
    | false => exact .inr (hbf rfl)
  have hDz : ¬ Z' w.heap.size := fun h => (s2 _ a4).1 (.inr h)
  have hlz : ¬ Z' (w.heap.size + 1) := fun h => (s2 _ a3).1 (.inr h)
  have hput : ∀ x, x ≠ w.heap.size + 1 → (W'.putObj (w.heap.size + 1) (.loop { rcEnd rc lv bb with state := .exhausted })).heap[x]? = W'.heap[x]? := fun x hx => World.putObj_heap_other hx
  have hZput : ∀ x, Z' x → (W'.putObj (w.heap.size + 1) (.loop { rcEnd rc lv bb with state := .exhausted })).heap[x]? = W'.heap[x]? := fun x hx => hput x (fun e => hlz (e ▸ hx))
  have hend := run_endLoop (P := P) a5 (by
    cases bb with
    | true => show rc.state ≠ _; rw [hrc]; intro h; cases h
    | false => intro h; cases h)
  have hstep : Step K Z w Z' (W'.putObj (w.heap.size + 1) (.loop { rcEnd rc lv bb with state := .exhausted })) := by
    refine ⟨⟨hst.ext.os.trans hos.1, hst.ext.tape.trans hos.2.1, hst.ext.output.trans hos.2.2, ?_, fun b hb => ?_⟩, hst.le, hst.new⟩
    · have := hst.ext.size; rw [World.putObj_size]; omega
    · have := hg.kl b hb
      exact (hput b (by omega)).trans ((hst.ext.block b hb).trans (hold b this))
  -- the state behind the loop
  have hkey : ∀ e, Q e (CS.st ⟨M + 1, env, (M, some .dfr) :: S t', M :: ms⟩) → Post N κ K Z w ν Q e { a with defers := [{ target := .collected w.heap.size, args := #[] }] ++ a.defers } (W'.putObj (w.heap.size + 1) (.loop { rcEnd rc lv bb with state := .exhausted })) := by
    intro e hq
    refine ⟨Z', fun k => if k = M then markV [w.heap.size] else νA k, _, hstep, fun k hk => ?_, ?_, hq⟩
    · dsimp only
      rw [if_neg (by omega)]; exact a8 k (by omega)
    have hνm : ∀ k, ltK m k = true → (if k = M then markV [w.heap.size] else νA k) = ν k := fun k hk => by
      rw [ltK, Nat.blt_eq] at hk
      rw [if_neg (by omega)]; exact a8 k hk
    refine ⟨hg.size, fun k => ?_, fun s => ?_, ?_, fun b hb => .inr hb, fun b hb => ?_, ?_, fun k hk => ?_⟩
    · show (if k = M then _ else _ : Value).oneCell' = true
      split
      · rfl
      · exact a7 k
    · obtain ⟨g1, g2⟩ := henv s
      refine ⟨men_le (fun k hk => by simp only [CS.st, ltK, Nat.blt_eq] at hk ⊢; omega) g1, R_nu hνm g1 (R_mono hst.le (fun y hy => ?_) g2)⟩
      exact (hZput y (hst.le y hy)).trans ((hst.ext.block y (hg.zk y hy)).trans (hold y (hKz y hy)))
    · have hc : ∀ {k b}, lkr ((M, some Blk.dfr) :: S t') k = some b → (k = M ∧ b = .dfr) ∨ (k < M ∧ lkr (S t') k = some b) := by
        intro k b hk
        rw [lkr_cons] at hk
        by_cases h1 : k = M
        · rw [if_pos h1] at hk; exact .inl ⟨h1, (Option.some.inj hk).symm⟩
        · rw [if_neg h1] at hk
          exact .inr ⟨(hS t' k b hIX hk).1, hk⟩
      refine ⟨fun k => if k = M then fun x => x = w.heap.size else G k, fun k b hk => ?_⟩
      refine ⟨?_, ?_, ?_, fun x hx => ?_, fun k' b' hne hk' x hx hx' => ?_⟩
      · show Nat.blt k (M + 1) = true
        rw [Nat.blt_eq]
        rcases hc hk with ⟨rfl, _⟩ | ⟨h1, _⟩ <;> omega
      · rcases hc hk with ⟨_, rfl⟩ | ⟨_, h3⟩
        · exact trivial
        · exact menB_le (fun j hj => by simp only [CS.st, ltK, Nat.blt_eq] at hj ⊢; omega) (hS t' k b hIX h3).2
      · rcases hc hk with ⟨rfl, rfl⟩ | ⟨h1, h3⟩
        · dsimp only
          rw [if_pos rfl, if_pos rfl]
          exact ⟨[w.heap.size], rfl, fun b hb => by rw [List.mem_singleton.1 hb]; exact (hput _ (by omega)).trans a6, by simp, fun y => by simp⟩
        · dsimp only
          rw [if_neg (by omega), if_neg (by omega)]
          obtain ⟨g1, g2, g3⟩ := a9 k b h3
          exact sat_nu (μ := ltK M) (fun j hj => by rw [ltK, Nat.blt_eq] at hj; rw [if_neg (by omega)]) (hS t' k b hIX h3).2 (sat_mono (fun _ h => h) hZput (fun x hx => hput x (g2 x hx).2.1) g1)
      · rw [World.putObj_size]
        dsimp only at hx
        rcases hc hk with ⟨rfl, rfl⟩ | ⟨h1, h3⟩
        · rw [if_pos rfl] at hx
          rw [show x = _ from hx]; exact s2 _ a4
        · rw [if_neg (by omega)] at hx
          exact s2 x ((a9 k b h3).2.1 x hx).1
      · dsimp only at hx hx'
        rcases hc hk with ⟨rfl, rfl⟩ | ⟨h1, h3⟩ <;> rcases hc hk' with ⟨rfl, rfl⟩ | ⟨h1', h3'⟩
        · exact hne rfl
        · rw [if_pos rfl] at hx
          rw [if_neg (by omega)] at hx'
          exact ((a9 k' b' h3').2.1 x hx').2.2 hx
        · rw [if_pos rfl] at hx'
          rw [if_neg (by omega)] at hx
          exact ((a9 k b h3).2.1 x hx).2.2 hx'
        · rw [if_neg (by omega)] at hx hx'
          exact (a9 k b h3).2.2 k' b' hne h3' x hx hx'
    · rw [World.putObj_size]
      rcases hb with hb | hb
      · have h1 := hg.kl b hb
        have h2 := hst.ext.size
        omega
      · exact hz b hb
    · show _ ++ a.defers = List.flatMap (fun k => markOf (if k = M then _ else _)) (M :: ms)
      rw [hds, List.flatMap_cons, if_pos rfl]
      have e1 : markOf (markV [w.heap.size]) = [{ target := .collected w.heap.size, args := #[] }] := by
        rw [markOf_V]; rfl
      rw [e1]
      refine congrArg _ (fmC fun k hk => ?_)
      have := hms k hk
      rw [hνm k this]
    · show Nat.blt k (M + 1) = true
      rw [Nat.blt_eq]
      rcases List.mem_cons.1 hk with rfl | hk
      · omega
      · have := hms k hk
        rw [Nat.blt_eq] at this; omega
  cases bb with
  | true =>
    have hp : (rcEnd rc lv true).pending = none := by show rc.pending = none; rw [hrc]
    have hend := hend.trans (congrArg (fun q => Result.ok q (W'.putObj (w.heap.size + 1) (.loop { rcEnd rc lv true with state := .exhausted }))) hp)
    exact ⟨none, _, hend, hkey _ (next t' (hbt rfl).1 (hbt rfl).2)⟩
  | false =>
    have hk2 := hkey _ (left t' (hbf rfl))
    refine ⟨some lv.c, _, hend, ?_⟩
    cases lv with
    | ret => exact wpIn_ret hk2
    | exit id => exact wpIn_exit hk2
end
end Go.Proofs.Ytbcghiagomkadaa.Cal
namespace Go.Proofs.Ytbcghiagomkadaa.Cal
open Go Pl
open Classical in
/-- Whether a list is a full strategy. -/
noncomputable def fullB (g : Gm) (pl : Int) (c : List Int) : Bool := decide (c.length = g.own.length ∧ ∀ v, v < g.own.length → (g.own.getD v 0 = pl → c.getD v 0 ∈ g.nxt.getD v []) ∧ (g.own.getD v 0 ≠ pl → c.getD v 0 = -1))
/-- What is asked of a strategy: 0 if all is right. -/
noncomputable def asksR (g : Gm) (pl : Int) (c : List Int) : Int := if validB g = true then (if pl ≠ 0 ∧ pl ≠ 1 then 6 else if fullB g pl c = true then 0 else 4) else 1
theorem asks_1 {g : Gm} {pl : Int} {c : List Int} (h : validB g = false) : asksR g pl c = 1 := by unfold asksR; rw [if_neg (by rw [h]; decide)]
theorem asks_6 {g : Gm} {pl : Int} {c : List Int} (h : validB g = true) (h2 : pl ≠ 0 ∧ pl ≠ 1) : asksR g pl c = 6 := by unfold asksR; rw [if_pos h, if_pos h2]
theorem asks_4 {g : Gm} {pl : Int} {c : List Int} (h : validB g = true) (h2 : ¬ (pl ≠ 0 ∧ pl ≠ 1)) (h3 : fullB g pl c = false) : asksR g pl c = 4 := by unfold asksR; rw [if_pos h, if_neg h2, if_neg (by rw [h3]; decide)]
theorem asks_0 {g : Gm} {pl : Int} {c : List Int} (h : validB g = true) (h2 : ¬ (pl ≠ 0 ∧ pl ≠ 1)) (h3 : fullB g pl c = true) : asksR g pl c = 0 := by unfold asksR; rw [if_pos h, if_neg h2, if_pos h3]
theorem asks_or (g : Gm) (pl : Int) (c : List Int) : (validB g = true ∧ (0 ≤ pl ∧ pl ≤ 1) ∧ fullB g pl c = true ∧ asksR g pl c = 0) ∨ asksR g pl c ≠ 0 := by
  unfold asksR
  split
  · split
    · exact .inr (by decide)
    · split
      · rename_i h1 h2 h3
        exact .inl ⟨h1, by omega, h3, rfl⟩
      · exact .inr (by decide)
  · exact .inr (by decide)
/-- What the reference's Wins answers. -/
noncomputable def rwinS : Spec
  | [.agg (.cons (.roI o) (.cons (.roI p) (.cons (.roII x) .nil))), .int .i64 pl, .roI c] => some ⟨True, .tup (.cons (.roB (if asksR ⟨o, p, x⟩ pl c = 0 then fromL ⟨o, p, x⟩ pl c else [])) (.cons (.int .i64 (asksR ⟨o, p, x⟩ pl c)) .nil)), none⟩
  | _ => none
theorem full_rd {g : Gm} {pl : Int} {c : List Int} (hv : validB g = true) (h : fullB g pl c = true) : c.length = g.own.length ∧ ∀ v, v < g.own.length → g.own.getD v 0 = pl → 0 ≤ c.getD v 0 ∧ c.getD v 0 < (g.own.length : Int) := by
  obtain ⟨h1, h2⟩ := of_decide_eq_true h
  refine ⟨h1, fun v hv2 ho => ?_⟩
  exact (row_of (validB_iff.1 hv) hv2).2 _ ((h2 v hv2).1 ho)
def bitsS : Spec
  | [.roB a, .roB b] => some ⟨True, .bool (decide (a = b)), none⟩
  | _ => none
theorem ext0B {a b : List Bool} (h1 : a.length = b.length) (h2 : ∀ j, j < a.length → a.getD j false = b.getD j false) : a = b := by
  refine List.ext_getElem h1 fun j h3 h4 => ?_
  have := h2 j h3
  simpa [List.getD_eq_getElem?_getD, List.getElem?_eq_getElem h3, List.getElem?_eq_getElem h4] using this
set_option maxRecDepth 4000 in
set_option maxHeartbeats 4000000 in
theorem bits_ok : FSpec Try.prog 20 bitsS := by
  refine fspec_of htb (fn := Try.f20) (by kernel_rfl) (by kernel_rfl) rfl (fun args r hS => ?_) (fun args r hS hob hl => ?_)
  · unfold bitsS at hS; split at hS <;> first | (cases hS; done) | (cases hS; exact Nat.le_of_ble_eq_true rfl)
  unfold bitsS at hS
  split at hS
  case h_2 => cases hS
  rename_i a b
  simp only [Option.some.injEq] at hS
  subst hS
  simp only [lenP, mkL, lim] at hl
  dsimp only at hob
  repeat' first
    | with_reducible first | refine awp_seq ?_ | refine awp_block ?_ | refine next_then ?_ | refine next_block ?_ | refine exit_then ?_ | refine ret_then ?_ | refine ret_block ?_ | refine exit_here ?_ | refine awp_exit ?_ | refine awp_ret ?_ | refine awp_skip ?_ | refine awp_label ?_ | refine next_noGoto ?_ | refine ret_noGoto ?_ | refine exit_noGoto ?_ | refine awp_scope ?_
    | ((with_reducible refine exit_past ?_ ?_); exact rfl)
    | ((with_reducible refine isCond ?_); refine awp_condO rfl ?_ ?_ <;> intro hb <;> (try simp only [zH] at hb))
    | ((with_reducible refine isRegS 2 ?_ ?_); (· exact rfl); (with_reducible refine isRegS 3 ?_ ?_); (· exact rfl); (first | refine awp_textM htb hmz noSp (fun _ => false) rfl rfl ?_ | refine awp_drawM hmo htb hmz noSp (fun _ => false) rfl rfl (by kernel_rfl) ?_); intro m' e' l' ob h; simp only [zE0, zE1, zE2, zE3, zE4, zE5, evp, evx, ev1, evLoad, evStore, evBin, isBoolK, forall_const, z38, tb, Nat.reduceAdd, Nat.reduceSub, Nat.reduceMul, Nat.reduceEqDiff, Nat.reduceLeDiff, Nat.reduceLT, Nat.reduceBEq, Nat.reduceBNe, ↓reduceIte, reduceIte] at h; obtain ⟨rfl, rfl, rfl, rfl⟩ := h; refine ⟨?_, ?_⟩)
    | ((with_reducible refine Ob.mk ?_); first | exact trivial | (intros; omega) | ((repeat' first | apply And.intro | (intro hg; have hg' := hg; try simp only [zH] at hg')) <;> first | assumption | omega | (simp only [zH]; omega)))
  · repeat' first
      | with_reducible first | refine awp_seq ?_ | refine awp_block ?_ | refine next_then ?_ | refine next_block ?_ | refine exit_then ?_ | refine ret_then ?_ | refine ret_block ?_ | refine exit_here ?_ | refine awp_exit ?_ | refine awp_ret ?_ | refine awp_skip ?_ | refine awp_label ?_ | refine next_noGoto ?_ | refine ret_noGoto ?_ | refine exit_noGoto ?_ | refine awp_scope ?_
      | ((with_reducible refine exit_past ?_ ?_); exact rfl)
      | ((with_reducible refine isCond ?_); refine awp_condO rfl ?_ ?_ <;> intro hb <;> (try simp only [zH] at hb))
      | ((with_reducible refine isReg ?_); (first | refine awp_textM htb hmz noSp (fun _ => false) rfl rfl ?_ | refine awp_drawM hmo htb hmz noSp (fun _ => false) rfl rfl (by kernel_rfl) ?_); intro m' e' l' ob h; simp only [zE0, zE1, zE2, zE3, zE4, zE5, evp, evx, ev1, evLoad, evStore, evBin, isBoolK, forall_const, z38, tb, Nat.reduceAdd, Nat.reduceSub, Nat.reduceMul, Nat.reduceEqDiff, Nat.reduceLeDiff, Nat.reduceLT, Nat.reduceBEq, Nat.reduceBNe, ↓reduceIte, reduceIte] at h; obtain ⟨rfl, rfl, rfl, rfl⟩ := h; refine ⟨?_, ?_⟩)
      | ((with_reducible refine Ob.mk ?_); first | exact trivial | (intros; omega) | ((repeat' first | apply And.intro | (intro hg; have hg' := hg; try simp only [zH] at hg')) <;> first | assumption | omega | (simp only [zH]; omega)))
    refine fin_ret rfl rfl (spec_flat rfl ?_ rfl)
    have e : decide (a = b) = false := decide_eq_false fun h => by rw [h] at hb; exact hb rfl
    rw [e]; rfl
  have hl2 : a.length = b.length := by omega
  clear hb
  repeat' first
    | with_reducible first | refine awp_seq ?_ | refine awp_block ?_ | refine next_then ?_ | refine next_block ?_ | refine exit_then ?_ | refine ret_then ?_ | refine ret_block ?_ | refine exit_here ?_ | refine awp_exit ?_ | refine awp_ret ?_ | refine awp_skip ?_ | refine awp_label ?_ | refine next_noGoto ?_ | refine ret_noGoto ?_ | refine exit_noGoto ?_ | refine awp_scope ?_
    | ((with_reducible refine exit_past ?_ ?_); exact rfl)
    | ((with_reducible refine isCond ?_); refine awp_condO rfl ?_ ?_ <;> intro hb <;> (try simp only [zH] at hb))
    | ((with_reducible refine isReg ?_); (first | refine awp_textM htb hmz noSp (fun _ => false) rfl rfl ?_ | refine awp_drawM hmo htb hmz noSp (fun _ => false) rfl rfl (by kernel_rfl) ?_); intro m' e' l' ob h; simp only [zE0, zE1, zE2, zE3, zE4, zE5, evp, evx, ev1, evLoad, evStore, evBin, isBoolK, forall_const, z38, tb, Nat.reduceAdd, Nat.reduceSub, Nat.reduceMul, Nat.reduceEqDiff, Nat.reduceLeDiff, Nat.reduceLT, Nat.reduceBEq, Nat.reduceBNe, ↓reduceIte, reduceIte] at h; obtain ⟨rfl, rfl, rfl, rfl⟩ := h; refine ⟨?_, ?_⟩)
    | ((with_reducible refine Ob.mk ?_); first | exact trivial | (intros; omega) | ((repeat' first | apply And.intro | (intro hg; have hg' := hg; try simp only [zH] at hg')) <;> first | assumption | omega | (simp only [zH]; omega)))
  refine awp_loopC (τ := Nat) (fun i => i ≤ a.length ∧ ∀ j, j < i → a.getD j false = b.getD j false) (fun i => ⟨14, [(13, .int .i64 i), (12, .int .i64 a.length), (11, .roB a), (0, .roB a), (1, .roB b)], [], []⟩) (fun i => a.length - i) 0 [] ?_ ⟨Nat.zero_le _, fun j hj => absurd hj (Nat.not_lt_zero j)⟩ ?_
  · (refine ⟨rfl, ?_, ?_⟩ <;> simp only [zE0, zE1, zE2, zE3, zE4, zE5, evp, evx, ev1, evLoad, evStore, evBin, isBoolK, forall_const, z38, tb, Nat.reduceAdd, Nat.reduceSub, Nat.reduceMul, Nat.reduceEqDiff, Nat.reduceLeDiff, Nat.reduceLT, Nat.reduceBEq, Nat.reduceBNe, ↓reduceIte, reduceIte, zI])
  rintro i ⟨hi, hk⟩
  repeat' first
    | with_reducible first | refine awp_seq ?_ | refine awp_block ?_ | refine next_then ?_ | refine next_block ?_ | refine exit_then ?_ | refine ret_then ?_ | refine ret_block ?_ | refine exit_here ?_ | refine awp_exit ?_ | refine awp_ret ?_ | refine awp_skip ?_ | refine awp_label ?_ | refine next_noGoto ?_ | refine ret_noGoto ?_ | refine exit_noGoto ?_ | refine awp_scope ?_
    | ((with_reducible refine exit_past ?_ ?_); exact rfl)
    | ((with_reducible refine isCond ?_); refine awp_condO rfl ?_ ?_ <;> intro hb <;> (try simp only [zH] at hb))
    | ((with_reducible refine isRegS 7 ?_ ?_); (· exact rfl); (with_reducible refine isRegS 9 ?_ ?_); (· exact rfl); (first | refine awp_textM htb hmz noSp (fun _ => false) rfl rfl ?_ | refine awp_drawM hmo htb hmz noSp (fun _ => false) rfl rfl (by kernel_rfl) ?_); intro m' e' l' ob h; simp only [zE0, zE1, zE2, zE3, zE4, zE5, evp, evx, ev1, evLoad, evStore, evBin, isBoolK, forall_const, z38, tb, Nat.reduceAdd, Nat.reduceSub, Nat.reduceMul, Nat.reduceEqDiff, Nat.reduceLeDiff, Nat.reduceLT, Nat.reduceBEq, Nat.reduceBNe, ↓reduceIte, reduceIte] at h; obtain ⟨rfl, rfl, rfl, rfl⟩ := h; refine ⟨?_, ?_⟩)
    | ((with_reducible refine Ob.mk ?_); first | exact trivial | (intros; omega) | ((repeat' first | apply And.intro | (intro hg; have hg' := hg; try simp only [zH] at hg')) <;> first | assumption | omega | (simp only [zH]; omega)))
  · repeat' first
      | with_reducible first | refine awp_seq ?_ | refine awp_block ?_ | refine next_then ?_ | refine next_block ?_ | refine exit_then ?_ | refine ret_then ?_ | refine ret_block ?_ | refine exit_here ?_ | refine awp_exit ?_ | refine awp_ret ?_ | refine awp_skip ?_ | refine awp_label ?_ | refine next_noGoto ?_ | refine ret_noGoto ?_ | refine exit_noGoto ?_ | refine awp_scope ?_
      | ((with_reducible refine exit_past ?_ ?_); exact rfl)
      | ((with_reducible refine isCond ?_); refine awp_condO rfl ?_ ?_ <;> intro hb <;> (try simp only [zH] at hb))
      | ((with_reducible refine isReg ?_); (first | refine awp_textM htb hmz noSp (fun _ => false) rfl rfl ?_ | refine awp_drawM hmo htb hmz noSp (fun _ => false) rfl rfl (by kernel_rfl) ?_); intro m' e' l' ob h; simp only [zE0, zE1, zE2, zE3, zE4, zE5, evp, evx, ev1, evLoad, evStore, evBin, isBoolK, forall_const, z38, tb, Nat.reduceAdd, Nat.reduceSub, Nat.reduceMul, Nat.reduceEqDiff, Nat.reduceLeDiff, Nat.reduceLT, Nat.reduceBEq, Nat.reduceBNe, ↓reduceIte, reduceIte] at h; obtain ⟨rfl, rfl, rfl, rfl⟩ := h; refine ⟨?_, ?_⟩)
      | ((with_reducible refine Ob.mk ?_); first | exact trivial | (intros; omega) | ((repeat' first | apply And.intro | (intro hg; have hg' := hg; try simp only [zH] at hg')) <;> first | assumption | omega | (simp only [zH]; omega)))
    refine fin_ret rfl rfl (spec_flat rfl ?_ rfl)
    have e : decide (a = b) = false := decide_eq_false fun h => by rw [h] at hb; simp at hb
    rw [e]; rfl
  · refine back (i + 1) [] ?_ ⟨by omega, fun v hv => ?_⟩ (by omega)
    · (refine ⟨rfl, ?_, ?_⟩ <;> simp only [zE0, zE1, zE2, zE3, zE4, zE5, evp, evx, ev1, evLoad, evStore, evBin, isBoolK, forall_const, z38, tb, Nat.reduceAdd, Nat.reduceSub, Nat.reduceMul, Nat.reduceEqDiff, Nat.reduceLeDiff, Nat.reduceLT, Nat.reduceBEq, Nat.reduceBNe, ↓reduceIte, reduceIte, zI])
    · rcases Nat.lt_succ_iff_lt_or_eq.1 hv with h | rfl
      · exact hk v h
      · simpa using hb
  have hie : i = a.length := by omega
  subst hie
  repeat' first
    | with_reducible first | refine awp_seq ?_ | refine awp_block ?_ | refine next_then ?_ | refine next_block ?_ | refine exit_then ?_ | refine ret_then ?_ | refine ret_block ?_ | refine exit_here ?_ | refine awp_exit ?_ | refine awp_ret ?_ | refine awp_skip ?_ | refine awp_label ?_ | refine next_noGoto ?_ | refine ret_noGoto ?_ | refine exit_noGoto ?_ | refine awp_scope ?_
    | ((with_reducible refine exit_past ?_ ?_); exact rfl)
    | ((with_reducible refine isCond ?_); refine awp_condO rfl ?_ ?_ <;> intro hb <;> (try simp only [zH] at hb))
    | ((with_reducible refine isReg ?_); (first | refine awp_textM htb hmz noSp (fun _ => false) rfl rfl ?_ | refine awp_drawM hmo htb hmz noSp (fun _ => false) rfl rfl (by kernel_rfl) ?_); intro m' e' l' ob h; simp only [zE0, zE1, zE2, zE3, zE4, zE5, evp, evx, ev1, evLoad, evStore, evBin, isBoolK, forall_const, z38, tb, Nat.reduceAdd, Nat.reduceSub, Nat.reduceMul, Nat.reduceEqDiff, Nat.reduceLeDiff, Nat.reduceLT, Nat.reduceBEq, Nat.reduceBNe, ↓reduceIte, reduceIte] at h; obtain ⟨rfl, rfl, rfl, rfl⟩ := h; refine ⟨?_, ?_⟩)
    | ((with_reducible refine Ob.mk ?_); first | exact trivial | (intros; omega) | ((repeat' first | apply And.intro | (intro hg; have hg' := hg; try simp only [zH] at hg')) <;> first | assumption | omega | (simp only [zH]; omega)))
  refine fin_ret rfl rfl (spec_flat rfl ?_ rfl)
  have e : decide (a = b) = true := decide_eq_true (ext0B hl2 hk)
  rw [e]; rfl
end Go.Proofs.Ytbcghiagomkadaa.Cal
namespace Go.Proofs.Ytbcghiagomkadaa.Cal
open Go
/-- Nil slices seen as slices that nobody writes. -/
def nro : AV → AV
  | .cst v => match isNilS v with | true => .roI [] | false => .cst v
  | .agg l => .agg (nro l)
  | .cons a b => .cons (nro a) (nro b)
  | u => u
theorem nro_R {Z : Nat → Prop} {w : World} {ν : Nat → Value} : ∀ {u : AV} {m : Bool} {cs : List Value}, R Z w u ν m cs → R Z w (nro u) ν m cs
  | .cst v, m, cs, h => by
    unfold nro
    cases hv : isNilS v with
    | false => exact h
    | true =>
      have := isNil_eq hv
      subst this
      have h : cs = [_] := h
      exact ⟨none, 0, h, Nat.le_refl _, Nat.zero_le _, fun h => absurd h (Nat.lt_irrefl _)⟩
  | .agg l, true, cs, h => by
    obtain ⟨es, e, r⟩ := h
    exact ⟨es, e, nro_R r⟩
  | .agg l, false, cs, h => nro_R (u := l) (m := true) h
  | .cons a b, m, cs, h => by
    obtain ⟨v, vs, e, r1, r2⟩ := h
    exact ⟨v, vs, e, nro_R r1, nro_R r2⟩
  | .any, _, _, h => h
  | .int _ _, _, _, h => h
  | .bool _, _, _, h => h
  | .own _, _, _, h => h
  | .adr _ _ _ _, _, _, h => h
  | .roI _, _, _, h => h
  | .roB _, _, _, h => h
  | .roII _, _, _, h => h
  | .ro _ _ _, _, _, h => h
  | .rop _, _, _, h => h
  | .tup _, _, _, h => h
  | .nil, _, _, h => h
  | .fn _ _, _, _, h => h
  | .yld _, _, _, h => h
  | .whn _ _, _, _, h => h
theorem nro_men {μ : Nat → Bool} : ∀ {u : AV}, men μ u = true → men μ (nro u) = true
  | .cst v, _ => by unfold nro; cases isNilS v <;> rfl
  | .agg l, h => nro_men (u := l) h
  | .cons a b, h => by
    simp only [men, Bool.and_eq_true] at h
    show (men μ (nro a) && men μ (nro b)) = true
    rw [nro_men h.1, nro_men h.2]; rfl
  | .any, h => h
  | .int _ _, h => h
  | .bool _, h => h
  | .own _, h => h
  | .adr _ _ _ _, h => h
  | .roI _, h => h
  | .roB _, h => h
  | .roII _, h => h
  | .ro _ _ _, h => h
  | .rop _, h => h
  | .tup _, h => h
  | .nil, h => h
  | .fn _ _, h => h
  | .yld _, h => h
  | .whn _ _, h => h
section
variable {P : Program} {ro : Option Nat} {N κ : Nat}
theorem awp_nro {c : Code} {m : Nat} {env : List (Nat × AV)} {rs : List (Nat × Option Blk)} {ms : List Nat} {Q : Exit → St → Prop} (k : Nat) {u : AV} (hk : lkr rs k = some (.box u)) {rs' : List (Nat × Option Blk)} (hrs : set1 k (.box (nro u)) rs = rs')
    (h : awp P ro N κ c (CS.st ⟨m, env, rs', ms⟩) Q) : awp P ro N κ c (CS.st ⟨m, env, rs, ms⟩) Q := by
  intro n K Z ν w a hg
  refine h n K Z ν w a { hg with rs := ?_ }
  subst hrs
  obtain ⟨Ft, hF⟩ := hg.rs
  have e : (CS.st ⟨m, env, set1 k (.box (nro u)) rs, ms⟩).rs = fun j => if j = k then some (.box (nro u)) else lkr rs j := lkr_set1
  refine ⟨Ft, fun j b hj => ?_⟩
  rw [e] at hj
  have hold : ∀ j' b', (CS.st ⟨m, env, set1 k (.box (nro u)) rs, ms⟩).rs j' = some b' → ∃ b0, lkr rs j' = some b0 := fun j' b' h' => by
    rw [e] at h'
    dsimp only at h'
    by_cases h1 : j' = k
    · rw [h1]; exact ⟨_, hk⟩
    · rw [if_neg h1] at h'; exact ⟨_, h'⟩
  dsimp only at hj
  by_cases h1 : j = k
  · rw [if_pos h1] at hj
    cases hj
    subst h1
    obtain ⟨a1, a2, a3, a4, a5⟩ := hF j _ hk
    refine ⟨a1, nro_men a2, ?_, a4, fun j' b' hne hj' => ?_⟩
    · obtain ⟨b, cells, T, hx, hb, r, hFb⟩ := a3
      exact ⟨b, cells, T, hx, hb, nro_R r, hFb⟩
    · obtain ⟨b0, h0⟩ := hold j' b' hj'
      exact a5 j' b0 hne h0
  · rw [if_neg h1] at hj
    obtain ⟨a1, a2, a3, a4, a5⟩ := hF j b hj
    refine ⟨a1, a2, a3, a4, fun j' b' hne hj' => ?_⟩
    obtain ⟨b0, h0⟩ := hold j' b' hj'
    exact a5 j' b0 hne h0
end
section
variable {P : Program} {ro : Option Nat} {N κ : Nat}
/-- Nil fields of a slice's structs seen as slices that nobody writes. -/
theorem awp_nroA {c : Code} {m : Nat} {env : List (Nat × AV)} {rs : List (Nat × Option Blk)} {ms : List Nat} {Q : Exit → St → Prop} (k : Nat) {sz n : Nat} {f : Nat → AV} (f' : Nat → AV) (hk : lkr rs k = some (.avs sz n f)) (hf : ∀ j, j < n → nro (f j) = f' j) {rs' : List (Nat × Option Blk)} (hrs : set1 k (.avs sz n f') rs = rs')
    (h : awp P ro N κ c (CS.st ⟨m, env, rs', ms⟩) Q) : awp P ro N κ c (CS.st ⟨m, env, rs, ms⟩) Q := by
  intro n0 K Z ν w a hg
  refine h n0 K Z ν w a { hg with rs := ?_ }
  subst hrs
  obtain ⟨Ft, hF⟩ := hg.rs
  have e : (CS.st ⟨m, env, set1 k (.avs sz n f') rs, ms⟩).rs = fun j => if j = k then some (.avs sz n f') else lkr rs j := lkr_set1
  refine ⟨Ft, fun j b hj => ?_⟩
  rw [e] at hj
  have hold : ∀ j' b', (CS.st ⟨m, env, set1 k (.avs sz n f') rs, ms⟩).rs j' = some b' → ∃ b0, lkr rs j' = some b0 := fun j' b' h' => by
    rw [e] at h'
    dsimp only at h'
    by_cases h1 : j' = k
    · rw [h1]; exact ⟨_, hk⟩
    · rw [if_neg h1] at h'; exact ⟨_, h'⟩
  dsimp only at hj
  by_cases h1 : j = k
  · rw [if_pos h1] at hj
    cases hj
    subst h1
    obtain ⟨a1, a2, a3, a4, a5⟩ := hF j _ hk
    refine ⟨a1, fun i hi => ?_, ?_, a4, fun j' b' hne hj' => ?_⟩
    · rw [← hf i hi]; exact nro_men (a2 i hi)
    · exact row_mono (fun _ _ => rfl) (fun i es hi h => by rw [← hf i hi]; exact nro_R h) a3
    · obtain ⟨b0, h0⟩ := hold j' b' hj'
      exact a5 j' b0 hne h0
  · rw [if_neg h1] at hj
    obtain ⟨a1, a2, a3, a4, a5⟩ := hF j b hj
    refine ⟨a1, a2, a3, a4, fun j' b' hne hj' => ?_⟩
    obtain ⟨b0, h0⟩ := hold j' b' hj'
    exact a5 j' b0 hne h0
end
end Go.Proofs.Ytbcghiagomkadaa.Cal
