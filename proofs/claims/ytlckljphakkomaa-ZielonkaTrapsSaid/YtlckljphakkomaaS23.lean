/- Own texts of the proof, merged, in order. -/
import Derived.Test.YtlckljphakkomaaS22
set_option linter.unusedVariables false
set_option linter.unusedSimpArgs false
namespace Go.Proofs.Ytlckljphakkomaa.Cal
open Go
/-- A function that yields numbers out of a set: key 1 a variable that holds the set, key 2 its memory, key 3 whatever else. -/
def IterB (P : Program) (gf : Nat) {τ : Type} (I : τ → Prop) (F : τ → List Bool) (hd : τ → Int) (go : τ → Prop) (nx : τ → τ → Prop) (st fin : τ → Prop) : Prop :=
  ∀ (A : τ → SemA)
    (hY : ∀ t, I t → go t → YCall P [.int .i64 (hd t)] [(1, some (.bools (F t))), (2, some (.sem [0, 1] (A t)))] 3
      (fun g => ∃ t', I t' ∧ nx t t' ∧ g = ⟨3, .bool true, [(1, some (.bools (F t'))), (2, some (.sem [0, 1] (A t')))]⟩))
    (t0 : τ) (h0 : I t0) (hi0 : st t0),
    FG P gf [.yld 0, .own 1] [(1, some (.box (.own 2))), (2, some (.bools (F t0))), (3, some (.sem [0, 2] (A t0)))] 4
      (fun g => ∃ t', I t' ∧ fin t' ∧ g = ⟨4, resV [], [(1, some (.box (.own 2))), (2, some (.bools (F t'))), (3, some (.sem [0, 2] (A t')))]⟩)
section
variable {P : Program} {ro : Option Nat} {N κ : Nat} {tb : Nat → Option TI}
def roundB (κ : Nat) {τ : Type} (I : τ → Prop) (F : τ → List Bool) (nx : τ → τ → Prop) (S : τ → List (Nat × Option Blk)) (kin M : Nat) (t : τ) (e : Exit) (s : St) : Prop :=
  e = .normal ∧ ∃ (cs : CS) (t' : τ) (ρ : List (Nat × Nat)), s = cs.st ∧ LeC κ cs ρ ⟨M, [], (kin, some (.bools (F t'))) :: S t', []⟩ ∧ I t' ∧ nx t t'
/-- One round, as yield's contract. -/
theorem round_yieldsB {τ : Type} {I : τ → Prop} {F : τ → List Bool} {hd : τ → Int} {go : τ → Prop} {nx : τ → τ → Prop} {S : τ → List (Nat × Option Blk)} {kin M m p fn lp D : Nat} {env : List (Nat × AV)} {assign body : Code} {w : World} {Z : Nat → Prop} {ν : Nat → Value} {a : Act} {rc : Loop}
    (hrc : rc = { state := .ready, pending := none, fn, tmps := a.tmps, params := #[p], assign, body, defers := D }) (hp : p < N) (hsz : a.tmps.size = N) (hkin : kin < m) (hmM : m ≤ M) (hlD : lp ≠ D)
    (henv : ∀ s, men (ltK m) (lke env s) = true ∧ R Z w (lke env s) ν true [a.tmps.getD s undef])
    (hS : ∀ t k b, I t → lkr (S t) k = some b → k < M ∧ k ≠ kin ∧ menB (ltK M) b)
    (round : ∀ t, I t → go t → awp P (some lp) N m assign (CS.st ⟨M, (p, .int .i64 (hd t)) :: env, (kin, some (.bools (F t))) :: S t, []⟩) (fun e s => e = .normal ∧ awp P (some lp) N m body s (roundB m I F nx S kin M t)))
    (t : τ) (ht : I t) (hi : go t) :
    YCall P [.int .i64 (hd t)] [(1, some (.bools (F t))), (2, some (.sem [0, 1] (ASem w Z ν m lp D rc (ν kin) (S t))))] 3
      (fun g => ∃ t', I t' ∧ nx t t' ∧ g = ⟨3, .bool true, [(1, some (.bools (F t'))), (2, some (.sem [0, 1] (ASem w Z ν m lp D rc (ν kin) (S t'))))]⟩) := by
  intro n K1 Z1 ν1 w1 vals l hone hvals hG hzk hkl hl
  obtain ⟨F1, hF1⟩ := hG
  obtain ⟨_, _, q1, q2, q3⟩ := hF1 1 (.bools (F t)) rfl
  obtain ⟨_, _, s1, s2, s3⟩ := hF1 2 (.sem [0, 1] (ASem w Z ν m lp D rc (ν kin) (S t))) rfl
  obtain ⟨a1, a2, a3, a4, a5, a6, ν', G, a7, a8, a9⟩ := ASem_of s1
  have e0 : ν1 0 = .map (some lp) := by injection a1
  have e1 : ν1 1 = ν kin := by injection a1 with _ h; injection h
  obtain rfl : l = lp := by rw [hl] at e0; injection e0 with h; injection h
  obtain ⟨v, vs, hvv, r1, r2⟩ := hvals
  have r1 := one1 r1
  have r2 : vs = [] := r2
  subst r1 r2
  have hvals2 : vals = #[.int .i64 (hd t)] := by rw [← Array.toList_inj, hvv]
  subst hrc
  have a5 : w1.heap[l]? = some (.loop { state := .ready, pending := none, fn := fn, tmps := a.tmps, params := #[p], assign := assign, body := body, defers := D }) := a5
  have hy := run_yield (P := P) (args := vals) a5 (by rw [hvals2]; rfl)
  have htm : ∀ (T : Array Value) (v : Value), ((#[p] : Array Tmp).zip #[v]).foldl (fun tmps (x : Tmp × Value) => tmps.setIfInBounds x.1 x.2) T = T.setIfInBounds p v := fun T v => by simp
  refine ⟨_, _, _, _, hy, roundIn_of_wpIn trivial ?_⟩
  have htm2 := htm a.tmps (.int .i64 (hd t))
  rw [← hvals2] at htm2
  have hlz : ¬ Z1 l := fun h => (s2 l a3).1 (hzk l h)
  have hDz : ¬ Z1 D := fun h => (s2 D a4).1 (hzk D h)
  -- the round's own view
  have hgood : Good (fun b => K1 b ∨ b = l ∨ b = D) Z1 N w1 ν' (CS.st ⟨M, (p, .int .i64 (hd t)) :: env, (kin, some (.bools (F t))) :: S t, []⟩) { tmps := a.tmps.setIfInBounds p (.int .i64 (hd t)), defers := [] } := by
    have hνm : ∀ k, ltK m k = true → ν' k = ν k := fun k hk => by
      rw [ltK, Nat.blt_eq] at hk
      exact a8 k hk
    refine ⟨by simp [hsz], a7, fun s => ?_, ?_, fun b hb => .inl (hzk b hb), fun b hb => ?_, rfl, fun k hk => by cases hk⟩
    · show men (ltK M) (lke ((p, _) :: env) s) = true ∧ R Z1 w1 (lke ((p, _) :: env) s) _ true _
      rw [lke_cons]
      by_cases hs : s = p
      · subst hs
        simp only [if_true]
        refine ⟨rfl, ?_⟩
        show [_] = [_]
        simp [Array.getD_eq_getD_getElem?, hsz, hp]
      · simp only [if_neg hs]
        obtain ⟨g1, g2⟩ := henv s
        refine ⟨men_le (fun k hk => by simp only [ltK, Nat.blt_eq] at hk ⊢; omega) g1, ?_⟩
        have : (a.tmps.setIfInBounds p (.int .i64 (hd t))).getD s undef = a.tmps.getD s undef := by
          simp [Array.getD_eq_getD_getElem?, Array.getElem?_setIfInBounds, Ne.symm hs]
        show R Z1 w1 (lke env s) _ true [(a.tmps.setIfInBounds p (.int .i64 (hd t))).getD s undef]
        rw [this]
        exact R_nu hνm g1 (R_mono (fun y hy => (a2 y hy).1) (fun y hy => (a2 y hy).2) g2)
    · refine ⟨fun k => if k = kin then F1 1 else G k, fun k b hk => ?_⟩
      have hk : lkr ((kin, some (.bools (F t))) :: S t) k = some b := hk
      rw [lkr_cons] at hk
      by_cases hkk : k = kin
      · subst hkk
        rw [if_pos rfl] at hk
        obtain rfl := Option.some.inj hk
        refine ⟨by show Nat.blt k M = true; rw [Nat.blt_eq]; omega, trivial, ?_, fun x hx => ?_, fun k' b' hne hk' x hx hx' => ?_⟩
        · dsimp only
          rw [if_pos rfl, a8 k hkin, ← e1]
          exact q1
        · dsimp only at hx
          rw [if_pos rfl] at hx
          obtain ⟨f1, f2⟩ := q2 x hx
          refine ⟨fun h => ?_, f2⟩
          rcases h with h | h | h
          · exact f1 h
          · exact q3 2 _ (by decide) rfl x hx (h ▸ a3)
          · exact q3 2 _ (by decide) rfl x hx (h ▸ a4)
        · have hk' : lkr ((k, some (.bools (F t))) :: S t) k' = some b' := hk'
          rw [lkr_cons, if_neg (Ne.symm hne)] at hk'
          dsimp only at hx hx'
          rw [if_pos rfl] at hx
          rw [if_neg (Ne.symm hne)] at hx'
          exact q3 2 _ (by decide) rfl x hx ((a9 k' b' hk').2.1 x hx').1
      · rw [if_neg hkk] at hk
        obtain ⟨b1, _, b2⟩ := hS t k b ht hk
        obtain ⟨c1, c2, c3⟩ := a9 k b hk
        refine ⟨by show Nat.blt k M = true; rw [Nat.blt_eq]; exact b1, b2, ?_, fun x hx => ?_, fun k' b' hne hk' x hx hx' => ?_⟩
        · dsimp only
          rw [if_neg hkk]
          exact c1
        · dsimp only at hx
          rw [if_neg hkk] at hx
          obtain ⟨d1, d2, d3⟩ := c2 x hx
          obtain ⟨f1, f2⟩ := s2 x d1
          exact ⟨fun h => h.elim f1 fun h => h.elim d2 d3, f2⟩
        · have hk' : lkr ((kin, some (.bools (F t))) :: S t) k' = some b' := hk'
          rw [lkr_cons] at hk'
          dsimp only at hx hx'
          rw [if_neg hkk] at hx
          by_cases hkk' : k' = kin
          · rw [if_pos hkk'] at hx'
            exact s3 1 _ (by decide) rfl x (c2 x hx).1 hx'
          · rw [if_neg hkk'] at hx' hk'
            exact c3 k' b' hne hk' x hx hx'
    · rcases hb with h | rfl | rfl
      · exact hkl b h
      · exact (Array.getElem?_eq_some_iff.1 a5).1
      · exact (Array.getElem?_eq_some_iff.1 a6).1
  have hasg := round t ht hi n _ Z1 _ w1 _ hgood
  have hasg2 : assign.wpIn ((FF none).inRound l) n P _ { tmps := a.tmps.setIfInBounds p (.int .i64 (hd t)), defers := [] } w1 := hasg
  rw [← htm2] at hasg2
  refine wpIn_mono hasg2 ?_
  rintro e a2' w2 ⟨Z2, ν2, σ2, st2, nu2, good2, rfl, hbody⟩
  -- the round begins
  have hl2 : w2.heap[l]? = _ := (st2.ext.block l (.inr (.inl rfl))).trans a5
  have hZl : ∀ {Zx : Nat → Prop} {wx : World}, Step (fun b => K1 b ∨ b = l ∨ b = D) Z1 w1 Zx wx → ¬ Zx l ∧ ¬ Zx D := fun h =>
    ⟨fun hz => (h.new l hz).elim hlz fun h => h (.inr (.inl rfl)), fun hz => (h.new D hz).elim hDz fun h => h (.inr (.inr rfl))⟩
  refine ⟨_, run_beginRound hl2 rfl, ?_⟩
  have good3 := good2.put (r := l) (o := .loop { state := .busy, pending := none, fn := fn, tmps := a.tmps, params := #[p], assign := assign, body := body, defers := D }) (.inl (.inr (.inl rfl))) (hZl st2).1
  have hb := hbody n _ _ _ _ _ good3
  refine wpIn_mono (show body.wpIn ((FF none).inRound l) n P _ a2' _ from hb) ?_
  rintro e a3' w3 ⟨Z3, ν3, σ3, st3, nu3, good4, rfl, cs, t', ρ, rfl, hle, hI, hN⟩
  have hKl : ∀ b, (K1 b ∨ b = l ∨ b = D) → un (fun b => K1 b ∨ b = l ∨ b = D) Z2 b := fun b h => .inl h
  have hl3 : w3.heap[l]? = some (.loop { state := .busy, pending := none, fn := fn, tmps := a.tmps, params := #[p], assign := assign, body := body, defers := D }) :=
    (st3.ext.block l (hKl l (.inr (.inl rfl)))).trans (World.putObj_heap_same (Array.getElem?_eq_some_iff.1 hl2).1)
  have hD3 : w3.heap[D]? = some (.deferred (some [])) :=
    (st3.ext.block D (hKl D (.inr (.inr rfl)))).trans ((World.putObj_heap_other (Ne.symm hlD)).trans ((st2.ext.block D (.inr (.inr rfl))).trans a6))
  suffices hres : ∀ (o : Loop), o = { state := .ready, pending := none, fn := fn, tmps := a.tmps, params := #[p], assign := assign, body := body, defers := D } →
      ∃ (y : Value) (Z' : Nat → Prop) (νr : Nat → Value) (g : GR), Ending.returned (Value.bool true) = .returned y ∧ Step K1 Z1 w1 Z' (w3.putObj l (.loop o)) ∧ (∀ k, (νr k).oneCell' = true) ∧ (∀ k, k < 3 → νr k = ν1 k) ∧ R Z' (w3.putObj l (.loop o)) g.val νr true [y] ∧ men (ltK g.m) g.val = true ∧ GoodRs (un K1 Z') Z' (w3.putObj l (.loop o)) νr (ltK g.m) (lkr g.rs) ∧ (∀ b, Z' b → b < (w3.putObj l (.loop o)).heap.size) ∧
        (∃ t'', I t'' ∧ nx t t'' ∧ g = ⟨3, .bool true, [(1, some (.bools (F t''))), (2, some (.sem [0, 1] (ASem w Z ν m l D { state := .ready, pending := none, fn := fn, tmps := a.tmps, params := #[p], assign := assign, body := body, defers := D } (ν kin) (S t''))))]⟩) ∧ 3 ≤ g.m by
    exact ⟨_, _, run_endRound none hl3, hres _ rfl⟩
  intro o ho
  have hle2 := Good.le good4 (le_of ρ hle.chk hle.env hle.rs)
  obtain ⟨H, hH⟩ := hle2.rs
  have hid := (le_of ρ hle.chk hle.env hle.rs).id
  -- the step from the round's begin to its end
  have hK1 : ∀ b, K1 b → b ≠ l ∧ b ≠ D := fun b hb => ⟨fun e => (s2 l a3).1 (e ▸ hb), fun e => (s2 D a4).1 (e ▸ hb)⟩
  have hstep : Step K1 Z1 w1 Z3 (w3.putObj l (.loop o)) := by
    refine ⟨⟨st3.ext.os.trans st2.ext.os, st3.ext.tape.trans st2.ext.tape, st3.ext.output.trans st2.ext.output, ?_, fun b hb => ?_⟩, fun b hb => st3.le b (st2.le b hb), fun b hb => ?_⟩
    · have h1 := st2.ext.size
      have h2 := st3.ext.size
      rw [World.putObj_size] at h2 ⊢
      omega
    · exact (World.putObj_heap_other (hK1 b hb).1).trans ((st3.ext.block b (hKl b (.inl hb))).trans ((World.putObj_heap_other (hK1 b hb).1).trans (st2.ext.block b (.inl hb))))
    · rcases st3.new b hb with h | h
      · rcases st2.new b h with h | h
        · exact .inl h
        · exact .inr fun hk => h (.inl hk)
      · exact .inr fun hk => h (.inl (.inl hk))
  have hz3 : ¬ Z3 l ∧ ¬ Z3 D := by
    refine ⟨fun h => ?_, fun h => ?_⟩
    · rcases st3.new l h with h | h
      · exact (hZl st2).1 h
      · exact h (hKl l (.inr (.inl rfl)))
    · rcases st3.new D h with h | h
      · exact (hZl st2).2 h
      · exact h (hKl D (.inr (.inr rfl)))
  have n5 : ∀ k, k < m → ν3 (rhoL ρ k) = ν k := fun k hk => by
    rw [hid k hk, nu3 k hk, nu2 k hk]
    exact a8 k hk
  have hout : ∀ k b, lkr ((kin, some (.bools (F t'))) :: S t') k = some b → ∀ x, H k x → ¬ un K1 Z3 x ∧ x < w3.heap.size ∧ x ≠ l ∧ x ≠ D := fun k b hk x hx => by
    obtain ⟨_, _, _, h2, _⟩ := hH k b hk
    obtain ⟨h3, h4⟩ := h2 x hx
    refine ⟨fun h => h3 ?_, h4, fun e => h3 ?_, fun e => h3 ?_⟩
    · rcases h with h | h
      · exact .inl (hKl x (.inl h))
      · exact .inr h
    · exact .inl (hKl x (.inr (.inl e)))
    · exact .inl (hKl x (.inr (.inr e)))
  have hput : ∀ x, x ≠ l → (w3.putObj l (.loop o)).heap[x]? = w3.heap[x]? := fun x hx => World.putObj_heap_other hx
  have hZput : ∀ x, Z3 x → (w3.putObj l (.loop o)).heap[x]? = w3.heap[x]? := fun x hx => hput x (fun e => hz3.1 (e ▸ hx))
  have hlt3 : l < w3.heap.size := (Array.getElem?_eq_some_iff.1 hl3).1
  have hDt3 : D < w3.heap.size := (Array.getElem?_eq_some_iff.1 hD3).1
  have hSk : ∀ k b, lkr (S t') k = some b → k ≠ kin ∧ lkr ((kin, some (.bools (F t'))) :: S t') k = some b := fun k b hk => by
    have h1 := (hS t' k b hI hk).2.1
    refine ⟨h1, ?_⟩
    rw [lkr_cons, if_neg h1]; exact hk
  have hkk : lkr ((kin, some (.bools (F t'))) :: S t') kin = some (.bools (F t')) := by rw [lkr_cons, if_pos rfl]
  have hc : ∀ {k : Nat} {b : Blk}, lkr [(1, some (.bools (F t'))), (2, some (.sem [0, 1] (ASem w Z ν m l D { state := .ready, pending := none, fn := fn, tmps := a.tmps, params := #[p], assign := assign, body := body, defers := D } (ν kin) (S t'))))] k = some b → (k = 1 ∧ b = .bools (F t')) ∨ (k = 2 ∧ b = .sem [0, 1] (ASem w Z ν m l D { state := .ready, pending := none, fn := fn, tmps := a.tmps, params := #[p], assign := assign, body := body, defers := D } (ν kin) (S t'))) := fun {k b} hk => by
    rw [lkr_cons] at hk
    by_cases h1 : k = 1
    · rw [if_pos h1] at hk; exact .inl ⟨h1, (Option.some.inj hk).symm⟩
    · rw [if_neg h1, lkr_cons] at hk
      by_cases h2 : k = 2
      · rw [if_pos h2] at hk; exact .inr ⟨h2, (Option.some.inj hk).symm⟩
      · rw [if_neg h2] at hk; cases hk
  refine ⟨.bool true, Z3, fun k => if k < 3 then ν1 k else .nilFunc, ⟨3, .bool true, [(1, some (.bools (F t'))), (2, some (.sem [0, 1] (ASem w Z ν m l D _ (ν kin) (S t'))))]⟩, rfl, hstep, fun k => ?_, fun k hk => if_pos hk, rfl, rfl, ?_, fun b hb => ?_, ⟨t', hI, hN, rfl⟩, Nat.le_refl _⟩
  · dsimp only
    split
    · exact hone k
    · rfl
  · refine ⟨fun k => if k = 1 then H kin else fun x => x = l ∨ x = D ∨ ∃ k b, lkr (S t') k = some b ∧ H k x, fun k b hk => ?_⟩
    have hlD1 : (¬ un K1 Z3 l ∧ l < w3.heap.size) ∧ (¬ un K1 Z3 D ∧ D < w3.heap.size) := by
      refine ⟨⟨?_, hlt3⟩, ⟨?_, hDt3⟩⟩
      · rintro (h | h)
        · exact (hK1 l h).1 rfl
        · exact hz3.1 h
      · rintro (h | h)
        · exact (hK1 D h).2 rfl
        · exact hz3.2 h
    have hap : ∀ x, H kin x → ¬ (x = l ∨ x = D ∨ ∃ k b, lkr (S t') k = some b ∧ H k x) := fun x hx h => by
      rcases h with h | h | ⟨k2, b2, h2, h⟩
      · exact (hout kin _ hkk x hx).2.2.1 h
      · exact (hout kin _ hkk x hx).2.2.2 h
      · obtain ⟨h3, h4⟩ := hSk k2 b2 h2
        exact (hH kin _ hkk).2.2.2.2 k2 b2 (Ne.symm h3) h4 x hx h
    rcases hc hk with ⟨rfl, rfl⟩ | ⟨rfl, rfl⟩
    · refine ⟨rfl, trivial, ?_, fun x hx => ?_, fun k' b' hne hk' x hx hx' => ?_⟩
      · obtain ⟨_, _, g1, g2, g3⟩ := hH kin _ hkk
        have e2 : ν3 (rhoL ρ kin) = ν1 1 := (n5 kin hkin).trans e1.symm
        have g1 : row w3 (ν3 (rhoL ρ kin)) 1 (F t').length (boolAt (F t')) (H kin) := g1
        rw [e2] at g1
        show row _ (ν1 1) 1 (F t').length (boolAt (F t')) (H kin)
        exact row_mono (fun x hx => hput x (hout kin _ hkk x hx).2.2.1) (fun _ _ _ h => h) g1
      · rw [World.putObj_size]
        have hx : H kin x := hx
        exact ⟨(hout kin _ hkk x hx).1, (hout kin _ hkk x hx).2.1⟩
      · rcases hc hk' with ⟨rfl, _⟩ | ⟨rfl, _⟩
        · exact hne rfl
        · exact hap x hx hx'
    · refine ⟨rfl, ?_, ?_, fun x hx => ?_, fun k' b' hne hk' x hx hx' => ?_⟩
      · intro j hj
        simp only [List.mem_cons, List.not_mem_nil, or_false] at hj
        rcases hj with rfl | rfl <;> rfl
      · refine sat_ASem (νc := fun k => if k < 3 then ν1 k else .nilFunc) ⟨?_, fun y hy => ⟨?_, ?_⟩, .inl rfl, .inr (.inl rfl), ?_, (hput D (Ne.symm hlD)).trans hD3, fun k => ν3 (rhoL ρ k), H, hle2.one, n5, fun k b hk => ?_⟩
        · show [ν1 0, ν1 1] = _
          exact a1
        · exact hstep.le y (a2 y hy).1
        · exact (hstep.ext.block y (hzk y (a2 y hy).1)).trans (a2 y hy).2
        · rw [← ho]; exact World.putObj_heap_same hlt3
        · obtain ⟨_, h4⟩ := hSk k b hk
          obtain ⟨_, _, g1, g2, g3⟩ := hH k b h4
          exact ⟨sat_mono (fun _ h => h) hZput (fun x hx => hput x (hout k b h4 x hx).2.2.1) g1, fun x hx => ⟨.inr (.inr ⟨k, b, hk, hx⟩), (hout k b h4 x hx).2.2⟩, fun k' b' hne hk' => g3 k' b' hne (hSk k' b' hk').2⟩
      · rw [World.putObj_size]
        have hx : x = l ∨ x = D ∨ ∃ k b, lkr (S t') k = some b ∧ H k x := hx
        rcases hx with rfl | rfl | ⟨k2, b2, h2, h⟩
        · exact hlD1.1
        · exact hlD1.2
        · exact ⟨(hout k2 b2 (hSk k2 b2 h2).2 x h).1, (hout k2 b2 (hSk k2 b2 h2).2 x h).2.1⟩
      · rcases hc hk' with ⟨rfl, _⟩ | ⟨rfl, _⟩
        · exact hap x hx' hx
        · exact hne rfl
  · rw [World.putObj_size]
    exact hle2.kl b (hle2.zk b hb)
/-- The loop over a function that hands out the numbers of a set. -/
theorem awp_rangeB {gOp : Operand} {p gf m M kb kin : Nat} {assign body : Code} {env : List (Nat × AV)} {Q : Exit → St → Prop} {τ : Type} (I : τ → Prop) (F : τ → List Bool) (hd : τ → Int) (go : τ → Prop) (nx : τ → τ → Prop) (st fin : τ → Prop) (S : τ → List (Nat × Option Blk)) (ms : List Nat) (t0 : τ)
    (hIter : IterB P gf I F hd go nx st fin) (h0 : I t0) (hi0 : st t0)
    (hgo : opv (lke env) gOp = .fn gf (.cons (.own kb) .nil)) (hp : Nat.blt p N = true) (hkb : Nat.blt kb m = true) (hkin : Nat.blt kin m = true) (hbi : Nat.beq kb kin = false) (hmM : Nat.ble m M = true) (hκ : Nat.ble κ m = true) (hmen : menE m env = true) (hms : ∀ k, k ∈ ms → Nat.blt k m = true)
    (hS : ∀ t k b, I t → lkr (S t) k = some b → k < M ∧ k ≠ kin ∧ k ≠ kb ∧ menB (ltK M) b)
    (round : ∀ lp t, I t → go t → awp P (some lp) N m assign (CS.st ⟨M, (p, .int .i64 (hd t)) :: env, (kin, some (.bools (F t))) :: S t, []⟩) (fun e s => e = .normal ∧ awp P (some lp) N m body s (roundB m I F nx S kin M t)))
    (next : ∀ t, I t → fin t → Q .normal (CS.st ⟨M + 1, env, (M, some .dfr) :: (kin, some (.bools (F t))) :: S t, M :: ms⟩)) :
    awp P none N κ (.rangeFunc gOp #[p] assign body) (CS.st ⟨M, env, (kb, some (.box (.own kin))) :: (kin, some (.bools (F t0))) :: S t0, ms⟩) Q := by
  rw [Nat.blt_eq] at hp hkb hkin
  have hbi : kb ≠ kin := fun e => by rw [e, Nat.beq_refl] at hbi; cases hbi
  have hmM := Nat.le_of_ble_eq_true hmM
  have hκ := Nat.le_of_ble_eq_true hκ
  intro n K Z ν w a hg
  refine wpIn_rangeFunc ?_
  intro fn _
  obtain ⟨rc, hrc⟩ : ∃ rc : Loop, rc = { state := .ready, pending := none, fn, tmps := a.tmps, params := #[p], assign, body, defers := w.heap.size } := ⟨_, rfl⟩
  obtain ⟨W1, hW1⟩ : ∃ W1, (w.alloc (.deferred (some []))).alloc (.loop rc) = W1 := ⟨_, rfl⟩
  have hs1 : W1.heap.size = w.heap.size + 2 := by rw [← hW1, World.size_alloc, World.size_alloc]
  have hL1 : W1.heap[w.heap.size + 1]? = some (.loop rc) := by
    rw [← hW1]; have := World.alloc_heap_new (w.alloc (.deferred (some []))) (.loop rc); rwa [World.size_alloc] at this
  have hD1 : W1.heap[w.heap.size]? = some (.deferred (some [])) := by
    rw [← hW1]; exact (heap_alloc0 _ _ _ (by rw [World.size_alloc]; omega)).trans (World.alloc_heap_new w _)
  have hold : ∀ b, b < w.heap.size → W1.heap[b]? = w.heap[b]? := fun b hb => by
    rw [← hW1]; exact (heap_alloc0 _ _ _ (by rw [World.size_alloc]; omega)).trans (heap_alloc0 _ _ _ hb)
  have hos : W1.os = w.os ∧ W1.tape = w.tape ∧ W1.output = w.output := by rw [← hW1]; exact ⟨rfl, rfl, rfl⟩
  have hev := opv_R hg gOp
  rw [show opv (CS.st ⟨M, env, (kb, some (.box (.own kin))) :: (kin, some (.bools (F t0))) :: S t0, ms⟩).env gOp = _ from hgo] at hev
  obtain ⟨cv, ecv, rcv⟩ := hev
  have ecv := one1 ecv
  obtain ⟨vb, vs, hcv, rb, rn⟩ := rcv
  have rn : vs = [] := rn
  have rb : [vb] = [ν kb] := rb
  have rb := one1 rb
  subst rn hcv rb
  have henv : ∀ s, men (ltK m) (lke env s) = true ∧ R Z w (lke env s) ν true [a.tmps.getD s undef] := fun s => ⟨menE_lke hmen s, (hg.env s).2⟩
  have hds : a.defers = ms.flatMap (fun k => markOf (ν k)) := hg.ds
  have hFG := hIter (fun t => ASem w Z ν m (w.heap.size + 1) w.heap.size rc (ν kin) (S t))
    (fun t ht hi => round_yieldsB hrc hp hg.size hkin (by omega) (by omega) henv (fun t k b ht hk => ⟨(hS t k b ht hk).1, (hS t k b ht hk).2.1, (hS t k b ht hk).2.2.2⟩) (fun t ht hi => round _ t ht hi) t ht hi) t0 h0 hi0
  obtain ⟨⟨fn', hfn', hname, hbody⟩, hcall⟩ := hFG
  have eg : ∀ args w, (callFunc gf args).run P w = .ok (.enter gf args) w := by
    intro args w
    simp [callFunc, hfn', Sem.run_bind, Result.andThen, Sem.run, program]
    have hname' : ¬ fn'.name = "runtime.NumGoroutine" := by simpa using hname
    cases hb : fn'.body with
    | none => rw [hb] at hbody; cases hbody
    | some c => simp [hname', hb, Sem.run]
  obtain ⟨Ft, hF⟩ := id hg.rs
  have hKz : ∀ b, Z b → b < w.heap.size := fun b hb => hg.kl b (hg.zk b hb)
  have hl0 : ∀ k, lkr ((kb, some (.box (.own kin))) :: (kin, some (.bools (F t0))) :: S t0) k = if k = kb then some (.box (.own kin)) else if k = kin then some (.bools (F t0)) else lkr (S t0) k := fun k => by rw [lkr_cons, lkr_cons]
  have hF' : ∀ k b, lkr ((kb, some (.box (.own kin))) :: (kin, some (.bools (F t0))) :: S t0) k = some b → ltK M k = true ∧ menB (ltK M) b ∧ sat Z w ν (ν k) (Ft k) b ∧ (∀ x, Ft k x → ¬ K x ∧ x < w.heap.size) ∧ ∀ k' b', k ≠ k' → lkr ((kb, some (.box (.own kin))) :: (kin, some (.bools (F t0))) :: S t0) k' = some b' → ∀ x, Ft k x → ¬ Ft k' x := hF
  have hSl : ∀ k b, lkr (S t0) k = some b → k ≠ kb ∧ k ≠ kin ∧ lkr ((kb, some (.box (.own kin))) :: (kin, some (.bools (F t0))) :: S t0) k = some b := fun k b hk => by
    obtain ⟨_, h2, h3, _⟩ := hS t0 k b h0 hk
    exact ⟨h3, h2, by rw [hl0, if_neg h3, if_neg h2]; exact hk⟩
  have hB : lkr ((kb, some (.box (.own kin))) :: (kin, some (.bools (F t0))) :: S t0) kb = some (.box (.own kin)) := by rw [hl0, if_pos rfl]
  have hI0 : lkr ((kb, some (.box (.own kin))) :: (kin, some (.bools (F t0))) :: S t0) kin = some (.bools (F t0)) := by rw [hl0, if_neg (Ne.symm hbi), if_pos rfl]
  have hsat : ∀ k b, lkr ((kb, some (.box (.own kin))) :: (kin, some (.bools (F t0))) :: S t0) k = some b → sat Z W1 ν (ν k) (Ft k) b := fun k b hk => by
    obtain ⟨_, _, h3, h4, _⟩ := hF' k b hk
    exact sat_mono (fun _ h => h) (fun x hx => hold x (hKz x hx)) (fun x hx => hold x (h4 x hx).2) h3
  have hdis : ∀ x, ∀ k b, lkr ((kb, some (.box (.own kin))) :: (kin, some (.bools (F t0))) :: S t0) k = some b → Ft k x → ¬ K x ∧ x < w.heap.size := fun x k b hk hx => (hF' k b hk).2.2.2.1 x hx
  have hKs : ∀ x, K x → x < w.heap.size := hg.kl
  let νc : Nat → Value := fun j => if j = 0 then .map (some (w.heap.size + 1)) else if j = 1 then ν kb else if j = 2 then ν kin else .nilFunc
  have hcc : ∀ {k : Nat} {b : Blk}, lkr [(1, some (.box (.own 2))), (2, some (.bools (F t0))), (3, some (.sem [0, 2] (ASem w Z ν m (w.heap.size + 1) w.heap.size rc (ν kin) (S t0))))] k = some b → (k = 1 ∧ b = .box (.own 2)) ∨ (k = 2 ∧ b = .bools (F t0)) ∨ (k = 3 ∧ b = .sem [0, 2] (ASem w Z ν m (w.heap.size + 1) w.heap.size rc (ν kin) (S t0))) := fun {k b} hk => by
    rw [lkr_cons] at hk
    by_cases h1 : k = 1
    · rw [if_pos h1] at hk; exact .inl ⟨h1, (Option.some.inj hk).symm⟩
    · rw [if_neg h1, lkr_cons] at hk
      by_cases h2 : k = 2
      · rw [if_pos h2] at hk; exact .inr (.inl ⟨h2, (Option.some.inj hk).symm⟩)
      · rw [if_neg h2, lkr_cons] at hk
        by_cases h3 : k = 3
        · rw [if_pos h3] at hk; exact .inr (.inr ⟨h3, (Option.some.inj hk).symm⟩)
        · rw [if_neg h3] at hk; cases hk
  have hcl := hcall K Z νc W1 #[.func (.yield (w.heap.size + 1)) #[] #[], ν kb]
    (fun k => by
      show (if k = 0 then _ else if k = 1 then _ else if k = 2 then _ else _ : Value).oneCell' = true
      split
      · rfl
      · split
        · exact hg.one _
        · split
          · exact hg.one _
          · rfl)
    ⟨_, _, rfl, ⟨w.heap.size + 1, rfl, rfl⟩, _, _, rfl, rfl, rfl⟩ rfl
    (by
      refine ⟨fun k => if k = 1 then Ft kb else if k = 2 then Ft kin else fun x => x = w.heap.size + 1 ∨ x = w.heap.size ∨ ∃ k b, lkr (S t0) k = some b ∧ Ft k x, fun k b hk => ?_⟩
      have d12 : ∀ x, Ft kb x → ¬ Ft kin x := fun x hx => (hF' kb _ hB).2.2.2.2 kin _ hbi hI0 x hx
      have d13 : ∀ x, Ft kb x → ¬ (x = w.heap.size + 1 ∨ x = w.heap.size ∨ ∃ k b, lkr (S t0) k = some b ∧ Ft k x) := fun x hx h => by
        have := (hdis x kb _ hB hx).2
        rcases h with h | h | ⟨k2, b2, h2, h⟩
        · omega
        · omega
        · obtain ⟨e1, e2, e3⟩ := hSl k2 b2 h2
          exact (hF' kb _ hB).2.2.2.2 k2 b2 (Ne.symm e1) e3 x hx h
      have d23 : ∀ x, Ft kin x → ¬ (x = w.heap.size + 1 ∨ x = w.heap.size ∨ ∃ k b, lkr (S t0) k = some b ∧ Ft k x) := fun x hx h => by
        have := (hdis x kin _ hI0 hx).2
        rcases h with h | h | ⟨k2, b2, h2, h⟩
        · omega
        · omega
        · obtain ⟨e1, e2, e3⟩ := hSl k2 b2 h2
          exact (hF' kin _ hI0).2.2.2.2 k2 b2 (Ne.symm e2) e3 x hx h
      have hdj : ∀ k k' b', k ≠ k' → lkr [(1, some (.box (.own 2))), (2, some (.bools (F t0))), (3, some (.sem [0, 2] (ASem w Z ν m (w.heap.size + 1) w.heap.size rc (ν kin) (S t0))))] k' = some b' → (k = 1 ∨ k = 2 ∨ k = 3) → ∀ x, (if k = 1 then Ft kb else if k = 2 then Ft kin else fun x => x = w.heap.size + 1 ∨ x = w.heap.size ∨ ∃ k b, lkr (S t0) k = some b ∧ Ft k x) x → ¬ (if k' = 1 then Ft kb else if k' = 2 then Ft kin else fun x => x = w.heap.size + 1 ∨ x = w.heap.size ∨ ∃ k b, lkr (S t0) k = some b ∧ Ft k x) x := by
        intro k k' b' hne hk' hk x hx hx'
        rcases hk with rfl | rfl | rfl <;> rcases hcc hk' with ⟨rfl, _⟩ | ⟨rfl, _⟩ | ⟨rfl, _⟩
        · exact hne rfl
        · exact d12 x hx hx'
        · exact d13 x hx hx'
        · exact d12 x hx' hx
        · exact hne rfl
        · exact d23 x hx hx'
        · exact d13 x hx' hx
        · exact d23 x hx' hx
        · exact hne rfl
      rcases hcc hk with ⟨rfl, rfl⟩ | ⟨rfl, rfl⟩ | ⟨rfl, rfl⟩
      · refine ⟨rfl, rfl, ?_, fun x hx => ⟨(hdis x kb _ hB hx).1, by have := (hdis x kb _ hB hx).2; omega⟩, fun k' b' hne hk' x hx hx' => hdj 1 k' b' hne hk' (.inl rfl) x hx hx'⟩
        obtain ⟨b, cells, T, h1, h2, h3, h4⟩ := hsat kb _ hB
        exact ⟨b, cells, T, h1, h2, h3, h4⟩
      · refine ⟨rfl, trivial, ?_, fun x hx => ⟨(hdis x kin _ hI0 hx).1, by have := (hdis x kin _ hI0 hx).2; omega⟩, fun k' b' hne hk' x hx hx' => hdj 2 k' b' hne hk' (.inr (.inl rfl)) x hx hx'⟩
        exact hsat kin _ hI0
      · refine ⟨rfl, ?_, ?_, fun x hx => ?_, fun k' b' hne hk' x hx hx' => hdj 3 k' b' hne hk' (.inr (.inr rfl)) x hx hx'⟩
        · intro j hj
          simp only [List.mem_cons, List.not_mem_nil, or_false] at hj
          rcases hj with rfl | rfl <;> rfl
        · refine sat_ASem (νc := νc) ⟨rfl, fun y hy => ⟨hy, hold y (hKz y hy)⟩, .inl rfl, .inr (.inl rfl), hL1, hD1, ν, Ft, hg.one, fun _ _ => rfl, fun k b hk => ?_⟩
          have hk2 := (hSl k b hk).2.2
          refine ⟨hsat k b hk2, fun x hx => ⟨.inr (.inr ⟨k, b, hk, hx⟩), ?_, ?_⟩, fun k' b' hne hk' => (hF' k b hk2).2.2.2.2 k' b' hne (hSl k' b' hk').2.2⟩
          · have := (hdis x k b hk2 hx).2; omega
          · have := (hdis x k b hk2 hx).2; omega
        · have hx : x = w.heap.size + 1 ∨ x = w.heap.size ∨ ∃ k b, lkr (S t0) k = some b ∧ Ft k x := hx
          rcases hx with h | h | ⟨k2, b2, h2, h⟩
          · exact ⟨fun hk => by have := hKs x hk; omega, by omega⟩
          · exact ⟨fun hk => by have := hKs x hk; omega, by omega⟩
          · exact ⟨(hdis x _ _ (hSl k2 b2 h2).2.2 h).1, by have := (hdis x _ _ (hSl k2 b2 h2).2.2 h).2; omega⟩)
    hg.zk (fun b hb => by rw [hs1]; have := hg.kl b hb; omega)
  refine ⟨w.heap.size + 1, [{ target := .collected w.heap.size, args := #[] }], W1, { target := .fn (.func gf) [ν kb].toArray, args := #[.func (.yield (w.heap.size + 1)) #[] #[]] }, W1, gf, #[.func (.yield (w.heap.size + 1)) #[] #[]] ++ [ν kb].toArray, W1, ?_, ?_, ?_, ?_, (fun h => by cases h), ?_⟩
  · rw [← hW1, hrc]; exact run_enterLoop_outer _ _ _ _ _
  · simp only [resolve, ecv]
    simp [go_sem]
  · intro f' _; exact trivial
  · simp [invoke, go_sem, eg]
  refine CallsIn.mono (ff_calls hcl) ?_
  rintro e W' ⟨y, Z', ν', v, μ', rs', rfl, hst, h1', hν, _, hr', hm', ⟨Fn, hFn⟩, hz, g, ⟨t', hI, hfn2, rfl⟩, rfl, rfl, _, rfl⟩
  obtain ⟨_, _, q1, q2, q3⟩ := hFn 2 (.bools (F t')) rfl
  obtain ⟨_, _, s1, s2, s3⟩ := hFn 3 (.sem [0, 2] (ASem w Z ν m (w.heap.size + 1) w.heap.size rc (ν kin) (S t'))) rfl
  obtain ⟨a1, a2, a3, a4, a5, a6, νA, G, a7, a8, a9⟩ := ASem_of s1
  have e2 : ν' 2 = ν kin := by injection a1 with _ h; injection h
  have hDz : ¬ Z' w.heap.size := fun h => (s2 _ a4).1 (.inr h)
  have hlz : ¬ Z' (w.heap.size + 1) := fun h => (s2 _ a3).1 (.inr h)
  have hput : ∀ x, x ≠ w.heap.size + 1 → (W'.putObj (w.heap.size + 1) (.loop { rc with state := .exhausted })).heap[x]? = W'.heap[x]? := fun x hx => World.putObj_heap_other hx
  have hZput : ∀ x, Z' x → (W'.putObj (w.heap.size + 1) (.loop { rc with state := .exhausted })).heap[x]? = W'.heap[x]? := fun x hx => hput x (fun e => hlz (e ▸ hx))
  have hend := run_endLoop (P := P) a5 (by show rc.state ≠ _; rw [hrc]; intro h; cases h)
  have hstep : Step K Z w Z' (W'.putObj (w.heap.size + 1) (.loop { rc with state := .exhausted })) := by
    refine ⟨⟨hst.ext.os.trans hos.1, hst.ext.tape.trans hos.2.1, hst.ext.output.trans hos.2.2, ?_, fun b hb => ?_⟩, hst.le, hst.new⟩
    · have := hst.ext.size; rw [World.putObj_size]; omega
    · have := hg.kl b hb
      exact (hput b (by omega)).trans ((hst.ext.block b hb).trans (hold b this))
  -- the state behind the loop
  have hkey : ∀ e, Q e (CS.st ⟨M + 1, env, (M, some .dfr) :: (kin, some (.bools (F t'))) :: S t', M :: ms⟩) → Post N κ K Z w ν Q e { a with defers := [{ target := .collected w.heap.size, args := #[] }] ++ a.defers } (W'.putObj (w.heap.size + 1) (.loop { rc with state := .exhausted })) := by
    intro e hq
    refine ⟨Z', fun k => if k = M then markV [w.heap.size] else νA k, _, hstep, fun k hk => ?_, ?_, hq⟩
    · dsimp only
      rw [if_neg (by omega)]; exact a8 k (by omega)
    have hνm : ∀ k, ltK m k = true → (if k = M then markV [w.heap.size] else νA k) = ν k := fun k hk => by
      rw [ltK, Nat.blt_eq] at hk
      rw [if_neg (by omega)]; exact a8 k hk
    refine ⟨hg.size, fun k => ?_, fun s => ?_, ?_, fun b hb => .inr hb, fun b hb => ?_, ?_, fun k hk => ?_⟩
    · show (if k = M then _ else _ : Value).oneCell' = true
      split
      · rfl
      · exact a7 k
    · obtain ⟨g1, g2⟩ := henv s
      refine ⟨men_le (fun k hk => by simp only [CS.st, ltK, Nat.blt_eq] at hk ⊢; omega) g1, R_nu hνm g1 (R_mono hst.le (fun y hy => ?_) g2)⟩
      exact (hZput y (hst.le y hy)).trans ((hst.ext.block y (hg.zk y hy)).trans (hold y (hKz y hy)))
    · have hc : ∀ {k b}, lkr ((M, some Blk.dfr) :: (kin, some (.bools (F t'))) :: S t') k = some b → (k = M ∧ b = .dfr) ∨ (k = kin ∧ b = .bools (F t')) ∨ (k < M ∧ k ≠ kin ∧ lkr (S t') k = some b) := by
        intro k b hk
        rw [lkr_cons] at hk
        by_cases h1 : k = M
        · rw [if_pos h1] at hk; exact .inl ⟨h1, (Option.some.inj hk).symm⟩
        · rw [if_neg h1, lkr_cons] at hk
          by_cases h2 : k = kin
          · rw [if_pos h2] at hk; exact .inr (.inl ⟨h2, (Option.some.inj hk).symm⟩)
          · rw [if_neg h2] at hk
            exact .inr (.inr ⟨(hS t' k b hI hk).1, h2, hk⟩)
      refine ⟨fun k => if k = M then fun x => x = w.heap.size else if k = kin then Fn 2 else G k, fun k b hk => ?_⟩
      have hkM : kin ≠ M := by omega
      refine ⟨?_, ?_, ?_, fun x hx => ?_, fun k' b' hne hk' x hx hx' => ?_⟩
      · show Nat.blt k (M + 1) = true
        rw [Nat.blt_eq]
        rcases hc hk with ⟨rfl, _⟩ | ⟨rfl, _⟩ | ⟨h1, _⟩ <;> omega
      · rcases hc hk with ⟨_, rfl⟩ | ⟨_, rfl⟩ | ⟨_, _, h3⟩
        · exact trivial
        · exact trivial
        · exact menB_le (fun j hj => by simp only [CS.st, ltK, Nat.blt_eq] at hj ⊢; omega) (hS t' k b hI h3).2.2.2
      · rcases hc hk with ⟨rfl, rfl⟩ | ⟨rfl, rfl⟩ | ⟨h1, h2, h3⟩
        · dsimp only
          rw [if_pos rfl, if_pos rfl]
          exact ⟨[w.heap.size], rfl, fun b hb => by rw [List.mem_singleton.1 hb]; exact (hput _ (by omega)).trans a6, by simp, fun y => by simp⟩
        · dsimp only
          rw [if_neg hkM, if_neg hkM, if_pos rfl]
          have q1 : row W' (ν' 2) 1 (F t').length (boolAt (F t')) (Fn 2) := q1
          show row _ (νA k) 1 (F t').length (boolAt (F t')) (Fn 2)
          rw [e2] at q1
          rw [a8 k hkin]
          exact row_mono (fun x hx => hput x (fun e => q3 3 _ (by decide) rfl x hx (e ▸ a3))) (fun _ _ _ h => h) q1
        · dsimp only
          rw [if_neg (by omega), if_neg (by omega), if_neg h2]
          obtain ⟨g1, g2, g3⟩ := a9 k b h3
          exact sat_nu (μ := ltK M) (fun j hj => by rw [ltK, Nat.blt_eq] at hj; rw [if_neg (by omega)]) (hS t' k b hI h3).2.2.2 (sat_mono (fun _ h => h) hZput (fun x hx => hput x (g2 x hx).2.1) g1)
      · rw [World.putObj_size]
        dsimp only at hx
        rcases hc hk with ⟨rfl, rfl⟩ | ⟨rfl, rfl⟩ | ⟨h1, h2, h3⟩
        · rw [if_pos rfl] at hx
          rw [show x = _ from hx]; exact s2 _ a4
        · rw [if_neg hkM, if_pos rfl] at hx
          exact q2 x hx
        · rw [if_neg (by omega), if_neg h2] at hx
          exact s2 x ((a9 k b h3).2.1 x hx).1
      · dsimp only at hx hx'
        rcases hc hk with ⟨rfl, rfl⟩ | ⟨rfl, rfl⟩ | ⟨h1, h2, h3⟩ <;> rcases hc hk' with ⟨rfl, rfl⟩ | ⟨rfl, rfl⟩ | ⟨h1', h2', h3'⟩
        · exact hne rfl
        · rw [if_pos rfl] at hx
          rw [if_neg hkM, if_pos rfl] at hx'
          exact q3 3 _ (by decide) rfl x hx' (by rw [show x = _ from hx]; exact a4)
        · rw [if_pos rfl] at hx
          rw [if_neg (by omega), if_neg h2'] at hx'
          exact ((a9 k' b' h3').2.1 x hx').2.2 hx
        · rw [if_pos rfl] at hx'
          rw [if_neg hkM, if_pos rfl] at hx
          exact q3 3 _ (by decide) rfl x hx (by rw [show x = _ from hx']; exact a4)
        · exact hne rfl
        · rw [if_neg hkM, if_pos rfl] at hx
          rw [if_neg (by omega), if_neg h2'] at hx'
          exact q3 3 _ (by decide) rfl x hx ((a9 k' b' h3').2.1 x hx').1
        · rw [if_pos rfl] at hx'
          rw [if_neg (by omega), if_neg h2] at hx
          exact ((a9 k b h3).2.1 x hx).2.2 hx'
        · rw [if_neg hkM, if_pos rfl] at hx'
          rw [if_neg (by omega), if_neg h2] at hx
          exact q3 3 _ (by decide) rfl x hx' ((a9 k b h3).2.1 x hx).1
        · rw [if_neg (by omega), if_neg h2] at hx
          rw [if_neg (by omega), if_neg h2'] at hx'
          exact (a9 k b h3).2.2 k' b' hne h3' x hx hx'
    · rw [World.putObj_size]
      rcases hb with hb | hb
      · have h1 := hg.kl b hb
        have h2 := hst.ext.size
        omega
      · exact hz b hb
    · show _ ++ a.defers = List.flatMap (fun k => markOf (if k = M then _ else _)) (M :: ms)
      rw [hds, List.flatMap_cons, if_pos rfl]
      have e1 : markOf (markV [w.heap.size]) = [{ target := .collected w.heap.size, args := #[] }] := by
        rw [markOf_V]; rfl
      rw [e1]
      refine congrArg _ (fmC fun k hk => ?_)
      have := hms k hk
      rw [hνm k this]
    · show Nat.blt k (M + 1) = true
      rw [Nat.blt_eq]
      rcases List.mem_cons.1 hk with rfl | hk
      · omega
      · have := hms k hk
        rw [Nat.blt_eq] at this; omega
  have hp : rc.pending = none := by rw [hrc]
  have hend := hend.trans (congrArg (fun q => Result.ok q (W'.putObj (w.heap.size + 1) (.loop { rc with state := .exhausted }))) hp)
  exact ⟨none, _, hend, hkey _ (next t' hI hfn2)⟩
end
end Go.Proofs.Ytlckljphakkomaa.Cal
