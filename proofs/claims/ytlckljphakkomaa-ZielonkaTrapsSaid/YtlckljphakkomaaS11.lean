/- Own texts of the proof, merged, in order. -/
import Derived.RangeFuncRecord
import Derived.Below
import Derived.Test.YtlckljphakkomaaS10
set_option linter.unusedVariables false
set_option linter.unusedSimpArgs false
namespace Go.Proofs.Ytlckljphakkomaa.Cal
open Go
abbrev SemA := List Value → (Nat → Prop) → World → (Nat → Prop) → Prop
/-- What the loop's caller keeps meanwhile. -/
def ASem (w : World) (Z : Nat → Prop) (ν : Nat → Value) (m lp D : Nat) (rc : Loop) (vq : Value) (S : List (Nat × Option Blk)) : SemA := fun vs Zs ws F =>
  vs = [.map (some lp), vq] ∧ (∀ y, Z y → Zs y ∧ ws.heap[y]? = w.heap[y]?) ∧ F lp ∧ F D ∧ ws.heap[lp]? = some (.loop rc) ∧ ws.heap[D]? = some (.deferred (some [])) ∧
    ∃ (ν' : Nat → Value) (G : Nat → Nat → Prop), (∀ k, (ν' k).oneCell' = true) ∧ (∀ k, k < m → ν' k = ν k) ∧ ∀ k b, lkr S k = some b → sat Zs ws ν' (ν' k) (G k) b ∧ (∀ x, G k x → F x ∧ x ≠ lp ∧ x ≠ D) ∧ ∀ k' b', k ≠ k' → lkr S k' = some b' → ∀ x, G k x → ¬ G k' x
section
variable {w : World} {Z : Nat → Prop} {ν : Nat → Value} {m lp D : Nat} {rc : Loop} {vq : Value} {S : List (Nat × Option Blk)}
theorem ASem_mono {vs : List Value} {Zs Z' : Nat → Prop} {ws w' : World} {F : Nat → Prop} (h : ASem w Z ν m lp D rc vq S vs Zs ws F) (hZ : ∀ y, Zs y → Z' y) (hw : ∀ y, Zs y ∨ F y → w'.heap[y]? = ws.heap[y]?) : ASem w Z ν m lp D rc vq S vs Z' w' F := by
  obtain ⟨h1, h2, h3, h4, h5, h6, ν', G, h7, h8, h9⟩ := h
  refine ⟨h1, fun y hy => ⟨hZ y (h2 y hy).1, (hw y (.inl (h2 y hy).1)).trans (h2 y hy).2⟩, h3, h4, (hw lp (.inr h3)).trans h5, (hw D (.inr h4)).trans h6, ν', G, h7, h8, fun k b hk => ?_⟩
  obtain ⟨g1, g2, g3⟩ := h9 k b hk
  exact ⟨sat_mono hZ (fun y hy => hw y (.inl hy)) (fun y hy => hw y (.inr (g2 y hy).1)) g1, g2, g3⟩
theorem sat_ASem {νc : Nat → Value} {a b : Nat} {Zs : Nat → Prop} {ws : World} {F : Nat → Prop} {x : Value} (h : ASem w Z ν m lp D rc vq S [νc a, νc b] Zs ws F) : sat Zs ws νc x F (.sem [a, b] (ASem w Z ν m lp D rc vq S)) :=
  fun Z' w' h1 h2 => ASem_mono h h1 h2
theorem ASem_of {νc : Nat → Value} {a b : Nat} {Zs : Nat → Prop} {ws : World} {F : Nat → Prop} {x : Value} (h : sat Zs ws νc x F (.sem [a, b] (ASem w Z ν m lp D rc vq S))) : ASem w Z ν m lp D rc vq S [νc a, νc b] Zs ws F :=
  h Zs ws (fun _ h => h) (fun _ _ => rfl)
end
section
variable {P : Program} {ro : Option Nat} {N κ : Nat} {tb : Nat → Option TI}
theorem Good.put {K Z : Nat → Prop} {w : World} {ν : Nat → Value} {σ : St} {a : Act} {r : Nat} {o : Obj} (hg : Good K Z N w ν σ a) (hK : K r) (hZ : ¬ Z r) : Good K Z N (w.putObj r o) ν σ a := by
  have hz : ∀ b, Z b → (w.putObj r o).heap[b]? = w.heap[b]? := fun b hb => World.putObj_heap_other (fun e => hZ (e ▸ hb))
  refine ⟨hg.size, hg.one, fun s => ⟨(hg.env s).1, R_mono (fun _ h => h) hz (hg.env s).2⟩, ?_, hg.zk, fun b hb => by rw [World.putObj_size]; exact hg.kl b hb, hg.ds, hg.ml⟩
  exact hg.rs.mono (fun _ h => h) hz (by rw [World.putObj_size]; exact Nat.le_refl _) (fun _ h => .inl h) (fun b hb _ => World.putObj_heap_other (fun e => hb (e ▸ hK)))
theorem heap_alloc0 (w : World) (o : Obj) (k : Nat) (h : k < w.heap.size) : (w.alloc o).heap[k]? = w.heap[k]? := by
  show (w.heap.push o)[k]? = _
  rw [Array.getElem?_push, if_neg (by omega)]
theorem menE_lke {m : Nat} : ∀ {env : List (Nat × AV)}, menE m env = true → ∀ s, men (ltK m) (lke env s) = true
  | [], _, _ => rfl
  | (k, v) :: t, h, s => by
    simp only [menE, Bool.and_eq_true] at h
    rw [lke_cons]
    split
    · exact h.1
    · exact menE_lke h.2 s
end
def sOK (M kq kb : Nat) : List (Nat × Option Blk) → Prop
  | [] => True
  | (k, some B) :: t => (k < M ∧ k ≠ kq ∧ k ≠ kb ∧ menB (ltK M) B) ∧ sOK M kq kb t
  | (_, none) :: t => sOK M kq kb t
theorem sOK_mem {M kq kb k : Nat} {B : Blk} : ∀ {l : List (Nat × Option Blk)}, sOK M kq kb l → (k, some B) ∈ l → k < M ∧ k ≠ kq ∧ k ≠ kb ∧ menB (ltK M) B
  | [], _, h => absurd h List.not_mem_nil
  | (j, none) :: t, hg, h => by
    rcases List.mem_cons.1 h with e | h
    · cases e
    · exact sOK_mem (l := t) hg h
  | (j, some B') :: t, hg, h => by
    rcases List.mem_cons.1 h with e | h
    · cases e; exact hg.1
    · exact sOK_mem (l := t) hg.2 h
end Go.Proofs.Ytlckljphakkomaa.Cal
namespace Go.Proofs.Ytlckljphakkomaa.Cal
open Go
/-- A function that yields numbers, with what it captured (c, no memory of anybody's own): key 1 whatever else; go: there is a round to come; nx: what it leads to; X: a round left the loop. -/
def IterV (P : Program) (gf : Nat) (c : AV) {τ : Type} (I X : τ → Prop) (hd : τ → Int) (go : τ → Prop) (nx : τ → τ → Prop) (st fin : τ → Prop) : Prop :=
  ∀ (A : Bool → τ → SemA)
    (hY : ∀ t, I t → go t → YCall P [.int .i64 (hd t)] [(1, some (.sem [0] (A true t)))] 2
      (fun g => ∃ b t', (b = true → I t' ∧ nx t t') ∧ (b = false → X t') ∧ g = ⟨2, .bool b, [(1, some (.sem [0] (A b t')))]⟩))
    (t0 : τ) (h0 : I t0) (hi0 : st t0),
    FG P gf [.yld 0, c] [(1, some (.sem [0] (A true t0)))] 2
      (fun g => ∃ b t', (b = true → I t' ∧ fin t') ∧ (b = false → X t') ∧ g = ⟨2, resV [], [(1, some (.sem [0] (A b t')))]⟩)
/-- What the loop's caller keeps meanwhile. -/
def ASemV (w : World) (Z : Nat → Prop) (ν : Nat → Value) (m lp D : Nat) (rc : Loop) (S : List (Nat × Option Blk)) : SemA := fun vs Zs ws F =>
  vs = [.map (some lp)] ∧ (∀ y, Z y → Zs y ∧ ws.heap[y]? = w.heap[y]?) ∧ F lp ∧ F D ∧ ws.heap[lp]? = some (.loop rc) ∧ ws.heap[D]? = some (.deferred (some [])) ∧
    ∃ (ν' : Nat → Value) (G : Nat → Nat → Prop), (∀ k, (ν' k).oneCell' = true) ∧ (∀ k, k < m → ν' k = ν k) ∧ ∀ k b, lkr S k = some b → sat Zs ws ν' (ν' k) (G k) b ∧ (∀ x, G k x → F x ∧ x ≠ lp ∧ x ≠ D) ∧ ∀ k' b', k ≠ k' → lkr S k' = some b' → ∀ x, G k x → ¬ G k' x
section
variable {w : World} {Z : Nat → Prop} {ν : Nat → Value} {m lp D : Nat} {rc : Loop} {S : List (Nat × Option Blk)}
theorem ASemV_mono {vs : List Value} {Zs Z' : Nat → Prop} {ws w' : World} {F : Nat → Prop} (h : ASemV w Z ν m lp D rc S vs Zs ws F) (hZ : ∀ y, Zs y → Z' y) (hw : ∀ y, Zs y ∨ F y → w'.heap[y]? = ws.heap[y]?) : ASemV w Z ν m lp D rc S vs Z' w' F := by
  obtain ⟨h1, h2, h3, h4, h5, h6, ν', G, h7, h8, h9⟩ := h
  refine ⟨h1, fun y hy => ⟨hZ y (h2 y hy).1, (hw y (.inl (h2 y hy).1)).trans (h2 y hy).2⟩, h3, h4, (hw lp (.inr h3)).trans h5, (hw D (.inr h4)).trans h6, ν', G, h7, h8, fun k b hk => ?_⟩
  obtain ⟨g1, g2, g3⟩ := h9 k b hk
  exact ⟨sat_mono hZ (fun y hy => hw y (.inl hy)) (fun y hy => hw y (.inr (g2 y hy).1)) g1, g2, g3⟩
theorem sat_ASemV {νc : Nat → Value} {a : Nat} {Zs : Nat → Prop} {ws : World} {F : Nat → Prop} {x : Value} (h : ASemV w Z ν m lp D rc S [νc a] Zs ws F) : sat Zs ws νc x F (.sem [a] (ASemV w Z ν m lp D rc S)) :=
  fun Z' w' h1 h2 => ASemV_mono h h1 h2
theorem ASemV_of {νc : Nat → Value} {a : Nat} {Zs : Nat → Prop} {ws : World} {F : Nat → Prop} {x : Value} (h : sat Zs ws νc x F (.sem [a] (ASemV w Z ν m lp D rc S))) : ASemV w Z ν m lp D rc S [νc a] Zs ws F :=
  h Zs ws (fun _ h => h) (fun _ _ => rfl)
end
section
variable {P : Program} {ro : Option Nat} {N κ : Nat} {tb : Nat → Option TI}
/-- How a round leaves the loop. -/
inductive Lv where
  | ret
  | exit (id : Nat)
def Lv.c : Lv → Code
  | .ret => .ret
  | .exit id => .exit id
def Lv.e : Lv → Exit
  | .ret => .ret
  | .exit id => .exit id
def roundV (κ : Nat) {τ : Type} (I X : τ → Prop) (nx : τ → τ → Prop) (lv : Lv) (S : τ → List (Nat × Option Blk)) (M : Nat) (t : τ) (e : Exit) (s : St) : Prop :=
  ∃ (cs : CS) (t' : τ) (ρ : List (Nat × Nat)), s = cs.st ∧ LeC κ cs ρ ⟨M, [], S t', []⟩ ∧ ((e = .normal ∧ I t' ∧ nx t t') ∨ (e = lv.e ∧ X t'))
def rcEnd (rc : Loop) (lv : Lv) : Bool → Loop
  | true => rc
  | false => { rc with state := .done, pending := some lv.c }
/-- One round, as yield's contract. -/
theorem round_yieldsV {τ : Type} {I X : τ → Prop} {hd : τ → Int} {go : τ → Prop} {nx : τ → τ → Prop} {lv : Lv} {S : τ → List (Nat × Option Blk)} {M m p fn lp D : Nat} {env : List (Nat × AV)} {assign body : Code} {w : World} {Z : Nat → Prop} {ν : Nat → Value} {a : Act} {rc : Loop}
    (hrc : rc = { state := .ready, pending := none, fn, tmps := a.tmps, params := #[p], assign, body, defers := D }) (hp : p < N) (hsz : a.tmps.size = N) (hmM : m ≤ M) (hlD : lp ≠ D)
    (henv : ∀ s, men (ltK m) (lke env s) = true ∧ R Z w (lke env s) ν true [a.tmps.getD s undef])
    (hS : ∀ t k b, I t ∨ X t → lkr (S t) k = some b → k < M ∧ menB (ltK M) b)
    (round : ∀ t, I t → go t → awp P (some lp) N m assign (CS.st ⟨M, (p, .int .i64 (hd t)) :: env, S t, []⟩) (fun e s => e = .normal ∧ awp P (some lp) N m body s (roundV m I X nx lv S M t)))
    (t : τ) (ht : I t) (hi : go t) :
    YCall P [.int .i64 (hd t)] [(1, some (.sem [0] (ASemV w Z ν m lp D (rcEnd rc lv true) (S t))))] 2
      (fun g => ∃ b t', (b = true → I t' ∧ nx t t') ∧ (b = false → X t') ∧ g = ⟨2, .bool b, [(1, some (.sem [0] (ASemV w Z ν m lp D (rcEnd rc lv b) (S t'))))]⟩) := by
  intro n K1 Z1 ν1 w1 vals l hone hvals hG hzk hkl hl
  obtain ⟨F1, hF1⟩ := hG
  obtain ⟨_, _, s1, s2, s3⟩ := hF1 1 (.sem [0] (ASemV w Z ν m lp D (rcEnd rc lv true) (S t))) rfl
  obtain ⟨a1, a2, a3, a4, a5, a6, ν', G, a7, a8, a9⟩ := ASemV_of s1
  have e0 : ν1 0 = .map (some lp) := by injection a1
  obtain rfl : l = lp := by rw [hl] at e0; injection e0 with h; injection h
  obtain ⟨v, vs, hvv, r1, r2⟩ := hvals
  have r1 := one1 r1
  have r2 : vs = [] := r2
  subst r1 r2
  have hvals2 : vals = #[.int .i64 (hd t)] := by rw [← Array.toList_inj, hvv]
  subst hrc
  have a5 : w1.heap[l]? = some (.loop { state := .ready, pending := none, fn := fn, tmps := a.tmps, params := #[p], assign := assign, body := body, defers := D }) := a5
  have hy := run_yield (P := P) (args := vals) a5 (by rw [hvals2]; rfl)
  have htm : ∀ (T : Array Value) (v : Value), ((#[p] : Array Tmp).zip #[v]).foldl (fun tmps (x : Tmp × Value) => tmps.setIfInBounds x.1 x.2) T = T.setIfInBounds p v := fun T v => by simp
  refine ⟨_, _, _, _, hy, roundIn_of_wpIn trivial ?_⟩
  have htm2 := htm a.tmps (.int .i64 (hd t))
  rw [← hvals2] at htm2
  have hlz : ¬ Z1 l := fun h => (s2 l a3).1 (hzk l h)
  have hDz : ¬ Z1 D := fun h => (s2 D a4).1 (hzk D h)
  -- the round's own view
  have hgood : Good (fun b => K1 b ∨ b = l ∨ b = D) Z1 N w1 ν' (CS.st ⟨M, (p, .int .i64 (hd t)) :: env, S t, []⟩) { tmps := a.tmps.setIfInBounds p (.int .i64 (hd t)), defers := [] } := by
    have hνm : ∀ k, ltK m k = true → ν' k = ν k := fun k hk => by
      rw [ltK, Nat.blt_eq] at hk
      exact a8 k hk
    refine ⟨by simp [hsz], a7, fun s => ?_, ?_, fun b hb => .inl (hzk b hb), fun b hb => ?_, rfl, fun k hk => by cases hk⟩
    · show men (ltK M) (lke ((p, _) :: env) s) = true ∧ R Z1 w1 (lke ((p, _) :: env) s) _ true _
      rw [lke_cons]
      by_cases hs : s = p
      · subst hs
        simp only [if_true]
        refine ⟨rfl, ?_⟩
        show [_] = [_]
        simp [Array.getD_eq_getD_getElem?, hsz, hp]
      · simp only [if_neg hs]
        obtain ⟨g1, g2⟩ := henv s
        refine ⟨men_le (fun k hk => by simp only [ltK, Nat.blt_eq] at hk ⊢; omega) g1, ?_⟩
        have : (a.tmps.setIfInBounds p (.int .i64 (hd t))).getD s undef = a.tmps.getD s undef := by
          simp [Array.getD_eq_getD_getElem?, Array.getElem?_setIfInBounds, Ne.symm hs]
        show R Z1 w1 (lke env s) _ true [(a.tmps.setIfInBounds p (.int .i64 (hd t))).getD s undef]
        rw [this]
        exact R_nu hνm g1 (R_mono (fun y hy => (a2 y hy).1) (fun y hy => (a2 y hy).2) g2)
    · refine ⟨G, fun k b hk => ?_⟩
      obtain ⟨b1, b2⟩ := hS t k b (.inl ht) hk
      obtain ⟨c1, c2, c3⟩ := a9 k b hk
      refine ⟨by show Nat.blt k M = true; rw [Nat.blt_eq]; exact b1, b2, c1, fun x hx => ?_, fun k' b' hne hk' => c3 k' b' hne hk'⟩
      obtain ⟨d1, d2, d3⟩ := c2 x hx
      obtain ⟨f1, f2⟩ := s2 x d1
      exact ⟨fun h => h.elim f1 fun h => h.elim d2 d3, f2⟩
    · rcases hb with h | rfl | rfl
      · exact hkl b h
      · exact (Array.getElem?_eq_some_iff.1 a5).1
      · exact (Array.getElem?_eq_some_iff.1 a6).1
  have hasg := round t ht hi n _ Z1 _ w1 _ hgood
  have hasg2 : assign.wpIn ((FF none).inRound l) n P _ { tmps := a.tmps.setIfInBounds p (.int .i64 (hd t)), defers := [] } w1 := hasg
  rw [← htm2] at hasg2
  refine wpIn_mono hasg2 ?_
  rintro e a2' w2 ⟨Z2, ν2, σ2, st2, nu2, good2, rfl, hbody⟩
  -- the round begins
  have hl2 : w2.heap[l]? = _ := (st2.ext.block l (.inr (.inl rfl))).trans a5
  have hZl : ∀ {Zx : Nat → Prop} {wx : World}, Step (fun b => K1 b ∨ b = l ∨ b = D) Z1 w1 Zx wx → ¬ Zx l ∧ ¬ Zx D := fun h =>
    ⟨fun hz => (h.new l hz).elim hlz fun h => h (.inr (.inl rfl)), fun hz => (h.new D hz).elim hDz fun h => h (.inr (.inr rfl))⟩
  refine ⟨_, run_beginRound hl2 rfl, ?_⟩
  have good3 := good2.put (r := l) (o := .loop { state := .busy, pending := none, fn := fn, tmps := a.tmps, params := #[p], assign := assign, body := body, defers := D }) (.inl (.inr (.inl rfl))) (hZl st2).1
  have hb := hbody n _ _ _ _ _ good3
  refine wpIn_mono (show body.wpIn ((FF none).inRound l) n P _ a2' _ from hb) ?_
  rintro e a3' w3 ⟨Z3, ν3, σ3, st3, nu3, good4, cs, t', ρ, rfl, hle, hfate⟩
  have hKl : ∀ b, (K1 b ∨ b = l ∨ b = D) → un (fun b => K1 b ∨ b = l ∨ b = D) Z2 b := fun b h => .inl h
  have hl3 : w3.heap[l]? = some (.loop { state := .busy, pending := none, fn := fn, tmps := a.tmps, params := #[p], assign := assign, body := body, defers := D }) :=
    (st3.ext.block l (hKl l (.inr (.inl rfl)))).trans (World.putObj_heap_same (Array.getElem?_eq_some_iff.1 hl2).1)
  have hD3 : w3.heap[D]? = some (.deferred (some [])) :=
    (st3.ext.block D (hKl D (.inr (.inr rfl)))).trans ((World.putObj_heap_other (Ne.symm hlD)).trans ((st2.ext.block D (.inr (.inr rfl))).trans a6))
  -- which end
  obtain ⟨bb, hbb⟩ : ∃ bb : Bool, (bb = true → e = .normal ∧ I t' ∧ nx t t') ∧ (bb = false → e = lv.e ∧ X t') := by
    rcases hfate with h | h
    · exact ⟨true, (fun _ => h), fun h => by cases h⟩
    · exact ⟨false, (fun h => by cases h), fun _ => h⟩
  have hIX : I t' ∨ X t' := by
    rcases hfate with h | h
    · exact .inl h.2.1
    · exact .inr h.2
  suffices hres : ∀ (o : Loop), o = rcEnd { state := .ready, pending := none, fn := fn, tmps := a.tmps, params := #[p], assign := assign, body := body, defers := D } lv bb →
      ∃ (y : Value) (Z' : Nat → Prop) (νr : Nat → Value) (g : GR), Ending.returned (Value.bool bb) = .returned y ∧ Step K1 Z1 w1 Z' (w3.putObj l (.loop o)) ∧ (∀ k, (νr k).oneCell' = true) ∧ (∀ k, k < 2 → νr k = ν1 k) ∧ R Z' (w3.putObj l (.loop o)) g.val νr true [y] ∧ men (ltK g.m) g.val = true ∧ GoodRs (un K1 Z') Z' (w3.putObj l (.loop o)) νr (ltK g.m) (lkr g.rs) ∧ (∀ b, Z' b → b < (w3.putObj l (.loop o)).heap.size) ∧
        (∃ b t'', (b = true → I t'' ∧ nx t t'') ∧ (b = false → X t'') ∧ g = ⟨2, .bool b, [(1, some (.sem [0] (ASemV w Z ν m l D (rcEnd { state := .ready, pending := none, fn := fn, tmps := a.tmps, params := #[p], assign := assign, body := body, defers := D } lv b) (S t''))))]⟩) ∧ 2 ≤ g.m by
    cases bb with
    | true =>
      obtain ⟨rfl, hI, hN⟩ := hbb.1 rfl
      exact ⟨_, _, run_endRound none hl3, hres _ rfl⟩
    | false =>
      obtain ⟨rfl, hX⟩ := hbb.2 rfl
      cases lv with
      | ret => exact ⟨_, _, run_endRound (some .ret) hl3, hres _ rfl⟩
      | exit id => exact ⟨_, _, run_endRound (some (.exit id)) hl3, hres _ rfl⟩
  intro o ho
  have hle2 := Good.le good4 (le_of ρ hle.chk hle.env hle.rs)
  obtain ⟨H, hH⟩ := hle2.rs
  have hid := (le_of ρ hle.chk hle.env hle.rs).id
  -- the step from the round's begin to its end
  have hK1 : ∀ b, K1 b → b ≠ l ∧ b ≠ D := fun b hb => ⟨fun e => (s2 l a3).1 (e ▸ hb), fun e => (s2 D a4).1 (e ▸ hb)⟩
  have hstep : Step K1 Z1 w1 Z3 (w3.putObj l (.loop o)) := by
    refine ⟨⟨st3.ext.os.trans st2.ext.os, st3.ext.tape.trans st2.ext.tape, st3.ext.output.trans st2.ext.output, ?_, fun b hb => ?_⟩, fun b hb => st3.le b (st2.le b hb), fun b hb => ?_⟩
    · have h1 := st2.ext.size
      have h2 := st3.ext.size
      rw [World.putObj_size] at h2 ⊢
      omega
    · exact (World.putObj_heap_other (hK1 b hb).1).trans ((st3.ext.block b (hKl b (.inl hb))).trans ((World.putObj_heap_other (hK1 b hb).1).trans (st2.ext.block b (.inl hb))))
    · rcases st3.new b hb with h | h
      · rcases st2.new b h with h | h
        · exact .inl h
        · exact .inr fun hk => h (.inl hk)
      · exact .inr fun hk => h (.inl (.inl hk))
  have hz3 : ¬ Z3 l ∧ ¬ Z3 D := by
    refine ⟨fun h => ?_, fun h => ?_⟩
    · rcases st3.new l h with h | h
      · exact (hZl st2).1 h
      · exact h (hKl l (.inr (.inl rfl)))
    · rcases st3.new D h with h | h
      · exact (hZl st2).2 h
      · exact h (hKl D (.inr (.inr rfl)))
  have n5 : ∀ k, k < m → ν3 (rhoL ρ k) = ν k := fun k hk => by
    rw [hid k hk, nu3 k hk, nu2 k hk]
    exact a8 k hk
  have hout : ∀ k b, lkr (S t') k = some b → ∀ x, H k x → ¬ un K1 Z3 x ∧ x < w3.heap.size ∧ x ≠ l ∧ x ≠ D := fun k b hk x hx => by
    obtain ⟨_, _, _, h2, _⟩ := hH k b hk
    obtain ⟨h3, h4⟩ := h2 x hx
    refine ⟨fun h => h3 ?_, h4, fun e => h3 ?_, fun e => h3 ?_⟩
    · rcases h with h | h
      · exact .inl (hKl x (.inl h))
      · exact .inr h
    · exact .inl (hKl x (.inr (.inl e)))
    · exact .inl (hKl x (.inr (.inr e)))
  have hput : ∀ x, x ≠ l → (w3.putObj l (.loop o)).heap[x]? = w3.heap[x]? := fun x hx => World.putObj_heap_other hx
  have hZput : ∀ x, Z3 x → (w3.putObj l (.loop o)).heap[x]? = w3.heap[x]? := fun x hx => hput x (fun e => hz3.1 (e ▸ hx))
  have hlt3 : l < w3.heap.size := (Array.getElem?_eq_some_iff.1 hl3).1
  have hDt3 : D < w3.heap.size := (Array.getElem?_eq_some_iff.1 hD3).1
  refine ⟨.bool bb, Z3, fun k => if k < 2 then ν1 k else .nilFunc, ⟨2, .bool bb, [(1, some (.sem [0] (ASemV w Z ν m l D (rcEnd _ lv bb) (S t'))))]⟩, rfl, hstep, fun k => ?_, fun k hk => if_pos hk, rfl, rfl, ?_, fun b hb => ?_, ⟨bb, t', fun h => (hbb.1 h).2, fun h => (hbb.2 h).2, rfl⟩, Nat.le_refl _⟩
  · dsimp only
    split
    · exact hone k
    · rfl
  · refine ⟨fun k => fun x => x = l ∨ x = D ∨ ∃ k b, lkr (S t') k = some b ∧ H k x, fun k b hk => ?_⟩
    have hc : k = 1 ∧ b = .sem [0] (ASemV w Z ν m l D (rcEnd { state := .ready, pending := none, fn := fn, tmps := a.tmps, params := #[p], assign := assign, body := body, defers := D } lv bb) (S t')) := by
      rw [lkr_cons] at hk
      by_cases h1 : k = 1
      · rw [if_pos h1] at hk; exact ⟨h1, (Option.some.inj hk).symm⟩
      · rw [if_neg h1] at hk; cases hk
    obtain ⟨rfl, rfl⟩ := hc
    have hlD1 : (¬ un K1 Z3 l ∧ l < w3.heap.size) ∧ (¬ un K1 Z3 D ∧ D < w3.heap.size) := by
      refine ⟨⟨?_, hlt3⟩, ⟨?_, hDt3⟩⟩
      · rintro (h | h)
        · exact (hK1 l h).1 rfl
        · exact hz3.1 h
      · rintro (h | h)
        · exact (hK1 D h).2 rfl
        · exact hz3.2 h
    refine ⟨rfl, ?_, ?_, fun x hx => ?_, fun k' b' hne hk' x hx hx' => ?_⟩
    · intro j hj
      simp only [List.mem_cons, List.not_mem_nil, or_false] at hj
      rw [hj]; rfl
    · refine sat_ASemV (νc := fun k => if k < 2 then ν1 k else .nilFunc) ⟨?_, fun y hy => ⟨?_, ?_⟩, .inl rfl, .inr (.inl rfl), ?_, (hput D (Ne.symm hlD)).trans hD3, fun k => ν3 (rhoL ρ k), H, hle2.one, n5, fun k b hk => ?_⟩
      · show [ν1 0] = _
        exact a1
      · exact hstep.le y (a2 y hy).1
      · exact (hstep.ext.block y (hzk y (a2 y hy).1)).trans (a2 y hy).2
      · rw [← ho]; exact World.putObj_heap_same hlt3
      · obtain ⟨_, _, g1, g2, g3⟩ := hH k b hk
        exact ⟨sat_mono (fun _ h => h) hZput (fun x hx => hput x (hout k b hk x hx).2.2.1) g1, fun x hx => ⟨.inr (.inr ⟨k, b, hk, hx⟩), (hout k b hk x hx).2.2⟩, fun k' b' hne hk' => g3 k' b' hne hk'⟩
    · rw [World.putObj_size]
      rcases hx with rfl | rfl | ⟨k2, b2, h2, h⟩
      · exact hlD1.1
      · exact hlD1.2
      · exact ⟨(hout k2 b2 h2 x h).1, (hout k2 b2 h2 x h).2.1⟩
    · rw [lkr_cons] at hk'
      by_cases h1 : k' = 1
      · exact hne h1.symm
      · rw [if_neg h1] at hk'; cases hk'
  · rw [World.putObj_size]
    exact hle2.kl b (hle2.zk b hb)
theorem cases1 {k : Nat} {b b1 : Blk} (hk : lkr [(1, some b1)] k = some b) : k = 1 ∧ b = b1 := by
  rw [lkr_cons] at hk
  by_cases h1 : k = 1
  · rw [if_pos h1] at hk; exact ⟨h1, (Option.some.inj hk).symm⟩
  · rw [if_neg h1] at hk; cases hk
/-- The loop over a function that hands out numbers. -/
theorem awp_rangeV {gOp : Operand} {p gf m M : Nat} {c : AV} {assign body : Code} {env : List (Nat × AV)} {Q : Exit → St → Prop} {τ : Type} (I X : τ → Prop) (hd : τ → Int) (go : τ → Prop) (nx : τ → τ → Prop) (st fin : τ → Prop) (lv : Lv) (S : τ → List (Nat × Option Blk)) (ms : List Nat) (t0 : τ)
    (hIter : IterV P gf c I X hd go nx st fin) (h0 : I t0) (hi0 : st t0) (hu : men noK c = true)
    (hgo : opv (lke env) gOp = .fn gf (.cons c .nil)) (hp : Nat.blt p N = true) (hmM : Nat.ble m M = true) (hκ : Nat.ble κ m = true) (hmen : menE m env = true) (hms : ∀ k, k ∈ ms → Nat.blt k m = true)
    (hS : ∀ t k b, I t ∨ X t → lkr (S t) k = some b → k < M ∧ menB (ltK M) b)
    (round : ∀ lp t, I t → go t → awp P (some lp) N m assign (CS.st ⟨M, (p, .int .i64 (hd t)) :: env, S t, []⟩) (fun e s => e = .normal ∧ awp P (some lp) N m body s (roundV m I X nx lv S M t)))
    (next : ∀ t, I t → fin t → Q .normal (CS.st ⟨M + 1, env, (M, some .dfr) :: S t, M :: ms⟩))
    (left : ∀ t, X t → Q lv.e (CS.st ⟨M + 1, env, (M, some .dfr) :: S t, M :: ms⟩)) :
    awp P none N κ (.rangeFunc gOp #[p] assign body) (CS.st ⟨M, env, S t0, ms⟩) Q := by
  rw [Nat.blt_eq] at hp
  have hmM := Nat.le_of_ble_eq_true hmM
  have hκ := Nat.le_of_ble_eq_true hκ
  intro n K Z ν w a hg
  refine wpIn_rangeFunc ?_
  intro fn _
  obtain ⟨rc, hrc⟩ : ∃ rc : Loop, rc = { state := .ready, pending := none, fn, tmps := a.tmps, params := #[p], assign, body, defers := w.heap.size } := ⟨_, rfl⟩
  obtain ⟨W1, hW1⟩ : ∃ W1, (w.alloc (.deferred (some []))).alloc (.loop rc) = W1 := ⟨_, rfl⟩
  have hs1 : W1.heap.size = w.heap.size + 2 := by rw [← hW1, World.size_alloc, World.size_alloc]
  have hL1 : W1.heap[w.heap.size + 1]? = some (.loop rc) := by
    rw [← hW1]; have := World.alloc_heap_new (w.alloc (.deferred (some []))) (.loop rc); rwa [World.size_alloc] at this
  have hD1 : W1.heap[w.heap.size]? = some (.deferred (some [])) := by
    rw [← hW1]; exact (heap_alloc0 _ _ _ (by rw [World.size_alloc]; omega)).trans (World.alloc_heap_new w _)
  have hold : ∀ b, b < w.heap.size → W1.heap[b]? = w.heap[b]? := fun b hb => by
    rw [← hW1]; exact (heap_alloc0 _ _ _ (by rw [World.size_alloc]; omega)).trans (heap_alloc0 _ _ _ hb)
  have hos : W1.os = w.os ∧ W1.tape = w.tape ∧ W1.output = w.output := by rw [← hW1]; exact ⟨rfl, rfl, rfl⟩
  have hev := opv_R hg gOp
  rw [show opv (CS.st ⟨M, env, S t0, ms⟩).env gOp = _ from hgo] at hev
  obtain ⟨cv, ecv, rcv⟩ := hev
  have ecv := one1 ecv
  obtain ⟨vb, vs, hcv, rb, rn⟩ := rcv
  have rn : vs = [] := rn
  subst rn hcv
  have henv : ∀ s, men (ltK m) (lke env s) = true ∧ R Z w (lke env s) ν true [a.tmps.getD s undef] := fun s => ⟨menE_lke hmen s, (hg.env s).2⟩
  have hds : a.defers = ms.flatMap (fun k => markOf (ν k)) := hg.ds
  have hFG := hIter (fun b t => ASemV w Z ν m (w.heap.size + 1) w.heap.size (rcEnd rc lv b) (S t))
    (fun t ht hi => round_yieldsV hrc hp hg.size (by omega) (by omega) henv (fun t k b ht hk => hS t k b ht hk) (fun t ht hi => round _ t ht hi) t ht hi) t0 h0 hi0
  obtain ⟨⟨fn', hfn', hname, hbody⟩, hcall⟩ := hFG
  have eg : ∀ args w, (callFunc gf args).run P w = .ok (.enter gf args) w := by
    intro args w
    simp [callFunc, hfn', Sem.run_bind, Result.andThen, Sem.run, program]
    have hname' : ¬ fn'.name = "runtime.NumGoroutine" := by simpa using hname
    cases hb : fn'.body with
    | none => rw [hb] at hbody; cases hbody
    | some c => simp [hname', hb, Sem.run]
  obtain ⟨Ft, hF⟩ := id hg.rs
  have hKz : ∀ b, Z b → b < w.heap.size := fun b hb => hg.kl b (hg.zk b hb)
  have hsat : ∀ k b, lkr (S t0) k = some b → sat Z W1 ν (ν k) (Ft k) b := fun k b hk => by
    obtain ⟨_, _, h3, h4, _⟩ := hF k b hk
    exact sat_mono (fun _ h => h) (fun x hx => hold x (hKz x hx)) (fun x hx => hold x (h4 x hx).2) h3
  have hdis : ∀ x, ∀ k b, lkr (S t0) k = some b → Ft k x → ¬ K x ∧ x < w.heap.size := fun x k b hk hx => (hF k b hk).2.2.2.1 x hx
  have hcl := hcall K Z (fun j => if j = 0 then .map (some (w.heap.size + 1)) else .nilFunc) W1 #[.func (.yield (w.heap.size + 1)) #[] #[], vb]
    (fun k => by
      split <;> rfl)
    ⟨_, _, rfl, ⟨w.heap.size + 1, rfl, rfl⟩, _, _, rfl, R_free hu (R_mono (fun _ h => h) (fun y hy => hold y (hKz y hy)) rb), rfl⟩ (by show (men (ltK 2) (.yld 0) && (men (ltK 2) c && men (ltK 2) .nil)) = true; rw [men_free hu]; rfl)
    (by
      refine ⟨fun k => fun x => x = w.heap.size + 1 ∨ x = w.heap.size ∨ ∃ k b, lkr (S t0) k = some b ∧ Ft k x, fun k b hk => ?_⟩
      obtain ⟨rfl, rfl⟩ := cases1 hk
      refine ⟨rfl, ?_, ?_, fun x hx => ?_, fun k' b' hne hk' x hx hx' => hne (cases1 hk').1.symm⟩
      · intro j hj
        rw [List.mem_singleton.1 hj]; rfl
      · refine sat_ASemV (νc := fun j => if j = 0 then .map (some (w.heap.size + 1)) else .nilFunc) ⟨rfl, fun y hy => ⟨hy, hold y (hKz y hy)⟩, .inl rfl, .inr (.inl rfl), hL1, hD1, ν, Ft, hg.one, fun _ _ => rfl, fun k b hk => ?_⟩
        refine ⟨hsat k b hk, fun x hx => ⟨.inr (.inr ⟨k, b, hk, hx⟩), ?_, ?_⟩, fun k' b' hne hk' => (hF k b hk).2.2.2.2 k' b' hne hk'⟩
        · have := (hdis x k b hk hx).2; omega
        · have := (hdis x k b hk hx).2; omega
      · have hKs : ∀ x, K x → x < w.heap.size := hg.kl
        rcases hx with h | h | ⟨k2, b2, h2, h⟩
        · exact ⟨fun hk => by have := hKs x hk; omega, by omega⟩
        · exact ⟨fun hk => by have := hKs x hk; omega, by omega⟩
        · exact ⟨(hdis x _ _ h2 h).1, by have := (hdis x _ _ h2 h).2; omega⟩)
    hg.zk (fun b hb => by rw [hs1]; have := hg.kl b hb; omega)
  refine ⟨w.heap.size + 1, [{ target := .collected w.heap.size, args := #[] }], W1, { target := .fn (.func gf) [vb].toArray, args := #[.func (.yield (w.heap.size + 1)) #[] #[]] }, W1, gf, #[.func (.yield (w.heap.size + 1)) #[] #[]] ++ [vb].toArray, W1, ?_, ?_, ?_, ?_, (fun h => by cases h), ?_⟩
  · rw [← hW1, hrc]; exact run_enterLoop_outer _ _ _ _ _
  · simp only [resolve, ecv]
    simp [go_sem]
  · intro f' _; exact trivial
  · simp [invoke, go_sem, eg]
  refine CallsIn.mono (ff_calls hcl) ?_
  rintro e W' ⟨y, Z', ν', v, μ', rs', rfl, hst, h1', hν, _, hr', hm', ⟨Fn, hFn⟩, hz, g, ⟨bb, t', hbt, hbf, rfl⟩, rfl, rfl, _, rfl⟩
  obtain ⟨_, _, s1, s2, s3⟩ := hFn 1 (.sem [0] (ASemV w Z ν m (w.heap.size + 1) w.heap.size (rcEnd rc lv bb) (S t'))) rfl
  obtain ⟨a1, a2, a3, a4, a5, a6, νA, G, a7, a8, a9⟩ := ASemV_of s1
  have hIX : I t' ∨ X t' := by
    cases bb with
    | true => exact .inl (hbt rfl).1
    | false => exact .inr (hbf rfl)
  have hDz : ¬ Z' w.heap.size := fun h => (s2 _ a4).1 (.inr h)
  have hlz : ¬ Z' (w.heap.size + 1) := fun h => (s2 _ a3).1 (.inr h)
  have hput : ∀ x, x ≠ w.heap.size + 1 → (W'.putObj (w.heap.size + 1) (.loop { rcEnd rc lv bb with state := .exhausted })).heap[x]? = W'.heap[x]? := fun x hx => World.putObj_heap_other hx
  have hZput : ∀ x, Z' x → (W'.putObj (w.heap.size + 1) (.loop { rcEnd rc lv bb with state := .exhausted })).heap[x]? = W'.heap[x]? := fun x hx => hput x (fun e => hlz (e ▸ hx))
  have hend := run_endLoop (P := P) a5 (by
    cases bb with
    | true => show rc.state ≠ _; rw [hrc]; intro h; cases h
    | false => intro h; cases h)
  have hstep : Step K Z w Z' (W'.putObj (w.heap.size + 1) (.loop { rcEnd rc lv bb with state := .exhausted })) := by
    refine ⟨⟨hst.ext.os.trans hos.1, hst.ext.tape.trans hos.2.1, hst.ext.output.trans hos.2.2, ?_, fun b hb => ?_⟩, hst.le, hst.new⟩
    · have := hst.ext.size; rw [World.putObj_size]; omega
    · have := hg.kl b hb
      exact (hput b (by omega)).trans ((hst.ext.block b hb).trans (hold b this))
  -- the state behind the loop
  have hkey : ∀ e, Q e (CS.st ⟨M + 1, env, (M, some .dfr) :: S t', M :: ms⟩) → Post N κ K Z w ν Q e { a with defers := [{ target := .collected w.heap.size, args := #[] }] ++ a.defers } (W'.putObj (w.heap.size + 1) (.loop { rcEnd rc lv bb with state := .exhausted })) := by
    intro e hq
    refine ⟨Z', fun k => if k = M then markV [w.heap.size] else νA k, _, hstep, fun k hk => ?_, ?_, hq⟩
    · dsimp only
      rw [if_neg (by omega)]; exact a8 k (by omega)
    have hνm : ∀ k, ltK m k = true → (if k = M then markV [w.heap.size] else νA k) = ν k := fun k hk => by
      rw [ltK, Nat.blt_eq] at hk
      rw [if_neg (by omega)]; exact a8 k hk
    refine ⟨hg.size, fun k => ?_, fun s => ?_, ?_, fun b hb => .inr hb, fun b hb => ?_, ?_, fun k hk => ?_⟩
    · show (if k = M then _ else _ : Value).oneCell' = true
      split
      · rfl
      · exact a7 k
    · obtain ⟨g1, g2⟩ := henv s
      refine ⟨men_le (fun k hk => by simp only [CS.st, ltK, Nat.blt_eq] at hk ⊢; omega) g1, R_nu hνm g1 (R_mono hst.le (fun y hy => ?_) g2)⟩
      exact (hZput y (hst.le y hy)).trans ((hst.ext.block y (hg.zk y hy)).trans (hold y (hKz y hy)))
    · have hc : ∀ {k b}, lkr ((M, some Blk.dfr) :: S t') k = some b → (k = M ∧ b = .dfr) ∨ (k < M ∧ lkr (S t') k = some b) := by
        intro k b hk
        rw [lkr_cons] at hk
        by_cases h1 : k = M
        · rw [if_pos h1] at hk; exact .inl ⟨h1, (Option.some.inj hk).symm⟩
        · rw [if_neg h1] at hk
          exact .inr ⟨(hS t' k b hIX hk).1, hk⟩
      refine ⟨fun k => if k = M then fun x => x = w.heap.size else G k, fun k b hk => ?_⟩
      refine ⟨?_, ?_, ?_, fun x hx => ?_, fun k' b' hne hk' x hx hx' => ?_⟩
      · show Nat.blt k (M + 1) = true
        rw [Nat.blt_eq]
        rcases hc hk with ⟨rfl, _⟩ | ⟨h1, _⟩ <;> omega
      · rcases hc hk with ⟨_, rfl⟩ | ⟨_, h3⟩
        · exact trivial
        · exact menB_le (fun j hj => by simp only [CS.st, ltK, Nat.blt_eq] at hj ⊢; omega) (hS t' k b hIX h3).2
      · rcases hc hk with ⟨rfl, rfl⟩ | ⟨h1, h3⟩
        · dsimp only
          rw [if_pos rfl, if_pos rfl]
          exact ⟨[w.heap.size], rfl, fun b hb => by rw [List.mem_singleton.1 hb]; exact (hput _ (by omega)).trans a6, by simp, fun y => by simp⟩
        · dsimp only
          rw [if_neg (by omega), if_neg (by omega)]
          obtain ⟨g1, g2, g3⟩ := a9 k b h3
          exact sat_nu (μ := ltK M) (fun j hj => by rw [ltK, Nat.blt_eq] at hj; rw [if_neg (by omega)]) (hS t' k b hIX h3).2 (sat_mono (fun _ h => h) hZput (fun x hx => hput x (g2 x hx).2.1) g1)
      · rw [World.putObj_size]
        dsimp only at hx
        rcases hc hk with ⟨rfl, rfl⟩ | ⟨h1, h3⟩
        · rw [if_pos rfl] at hx
          rw [show x = _ from hx]; exact s2 _ a4
        · rw [if_neg (by omega)] at hx
          exact s2 x ((a9 k b h3).2.1 x hx).1
      · dsimp only at hx hx'
        rcases hc hk with ⟨rfl, rfl⟩ | ⟨h1, h3⟩ <;> rcases hc hk' with ⟨rfl, rfl⟩ | ⟨h1', h3'⟩
        · exact hne rfl
        · rw [if_pos rfl] at hx
          rw [if_neg (by omega)] at hx'
          exact ((a9 k' b' h3').2.1 x hx').2.2 hx
        · rw [if_pos rfl] at hx'
          rw [if_neg (by omega)] at hx
          exact ((a9 k b h3).2.1 x hx).2.2 hx'
        · rw [if_neg (by omega)] at hx hx'
          exact (a9 k b h3).2.2 k' b' hne h3' x hx hx'
    · rw [World.putObj_size]
      rcases hb with hb | hb
      · have h1 := hg.kl b hb
        have h2 := hst.ext.size
        omega
      · exact hz b hb
    · show _ ++ a.defers = List.flatMap (fun k => markOf (if k = M then _ else _)) (M :: ms)
      rw [hds, List.flatMap_cons, if_pos rfl]
      have e1 : markOf (markV [w.heap.size]) = [{ target := .collected w.heap.size, args := #[] }] := by
        rw [markOf_V]; rfl
      rw [e1]
      refine congrArg _ (fmC fun k hk => ?_)
      have := hms k hk
      rw [hνm k this]
    · show Nat.blt k (M + 1) = true
      rw [Nat.blt_eq]
      rcases List.mem_cons.1 hk with rfl | hk
      · omega
      · have := hms k hk
        rw [Nat.blt_eq] at this; omega
  cases bb with
  | true =>
    have hp : (rcEnd rc lv true).pending = none := by show rc.pending = none; rw [hrc]
    have hend := hend.trans (congrArg (fun q => Result.ok q (W'.putObj (w.heap.size + 1) (.loop { rcEnd rc lv true with state := .exhausted }))) hp)
    exact ⟨none, _, hend, hkey _ (next t' (hbt rfl).1 (hbt rfl).2)⟩
  | false =>
    have hk2 := hkey _ (left t' (hbf rfl))
    refine ⟨some lv.c, _, hend, ?_⟩
    cases lv with
    | ret => exact wpIn_ret hk2
    | exit id => exact wpIn_exit hk2
/-- No marks yet. -/
theorem awp_mark0 {c : Code} {m : Nat} {env : List (Nat × AV)} {rs : List (Nat × Option Blk)} {Q : Exit → St → Prop} (hκ : Nat.ble κ m = true) (h : awp P ro N κ c (CS.st ⟨m + 1, env, (m, some .dfr) :: rs, [m]⟩) Q) : awp P ro N κ c (CS.st ⟨m, env, rs, []⟩) Q := by
  intro n K Z ν w a hg
  have hκ := Nat.le_of_ble_eq_true hκ
  have hw : ∀ k, ltK m k = true → (if k = m then markV [] else ν k) = ν k := fun k hk => if_neg (by rw [ltK, Nat.blt_eq] at hk; omega)
  have hlt : ∀ k, ltK m k = true → ltK (m + 1) k = true := fun k hk => by simp only [ltK, Nat.blt_eq] at hk ⊢; omega
  have hgood : Good K Z N w (fun k => if k = m then markV [] else ν k) (CS.st ⟨m + 1, env, (m, some .dfr) :: rs, [m]⟩) a := by
    refine ⟨hg.size, fun k => ?_, fun s => ⟨men_le hlt (hg.env s).1, R_nu hw (hg.env s).1 (hg.env s).2⟩, ?_, hg.zk, hg.kl, ?_, fun k hk => ?_⟩
    · show (if k = m then _ else _ : Value).oneCell' = true
      split
      · rfl
      · exact hg.one k
    · obtain ⟨Ft, hF⟩ := hg.rs
      refine ⟨fun k => if k = m then fun _ => False else Ft k, fun k b hk => ?_⟩
      have hk : lkr ((m, some Blk.dfr) :: rs) k = some b := hk
      rw [lkr_cons] at hk
      by_cases e : k = m
      · subst e
        rw [if_pos rfl] at hk
        obtain rfl : Blk.dfr = b := Option.some.inj hk
        refine ⟨by show Nat.blt k (k + 1) = true; rw [Nat.blt_eq]; omega, trivial, ⟨[], if_pos rfl, fun b hb => absurd hb List.not_mem_nil, List.nodup_nil, fun y => by simp⟩, fun x hx => ?_, fun k' b' hne hk' x hx => ?_⟩
        · simp only [if_true] at hx
        · simp only [if_true] at hx
      · rw [if_neg e] at hk
        obtain ⟨g1, g2, g3, g4, g5⟩ := hF k b hk
        refine ⟨hlt k g1, menB_le hlt g2, ?_, fun x hx => g4 x (by simpa only [if_neg e] using hx), fun k' b' hne hk' x hx hx' => ?_⟩
        · simp only [if_neg e]; exact sat_nu hw g2 g3
        · have hk' : lkr ((m, some Blk.dfr) :: rs) k' = some b' := hk'
          rw [lkr_cons] at hk'
          by_cases e' : k' = m
          · subst e'; simp only [if_true] at hx'
          · rw [if_neg e'] at hk'
            simp only [if_neg e] at hx
            simp only [if_neg e'] at hx'
            exact g5 k' b' hne hk' x hx hx'
    · rw [hg.ds]
      show [] = List.flatMap _ [m]
      rw [List.flatMap_cons, List.flatMap_nil, List.append_nil, if_pos rfl, markOf_V]; rfl
    · rw [List.mem_singleton.1 hk]
      show Nat.blt m (m + 1) = true
      rw [Nat.blt_eq]; omega
  refine wpIn_mono (h n K Z _ w a hgood) ?_
  rintro e a' w' ⟨Z', ν', s', h1, h2, h3, h4⟩
  exact ⟨Z', ν', s', h1, fun k hk => (h2 k hk).trans (if_neg (by omega)), h3, h4⟩
/-- Marks under two keys, under one. -/
theorem awp_joinM {c : Code} {m : Nat} {env : List (Nat × AV)} {rs : List (Nat × Option Blk)} {ms : List Nat} {Q : Exit → St → Prop} (k1 k2 : Nat) (h1 : lkr rs k1 = some .dfr) (h2 : lkr rs k2 = some .dfr) (hne : Nat.beq k1 k2 = false) (hκ : Nat.ble κ m = true)
    (h : awp P ro N κ c (CS.st ⟨m + 1, env, (m, some .dfr) :: dels [k1, k2] rs, m :: ms⟩) Q) : awp P ro N κ c (CS.st ⟨m, env, rs, k1 :: k2 :: ms⟩) Q := by
  intro n K Z ν w a hg
  have hκ := Nat.le_of_ble_eq_true hκ
  have hne : k1 ≠ k2 := by rintro rfl; rw [Nat.beq_refl] at hne; cases hne
  obtain ⟨Ft, hF⟩ := id hg.rs
  obtain ⟨_, _, ⟨b1, x1, c1, n1, f1⟩, d1, e1⟩ := hF k1 _ h1
  obtain ⟨_, _, ⟨b2, x2, c2, n2, f2⟩, d2, e2⟩ := hF k2 _ h2
  have hw : ∀ k, ltK m k = true → (if k = m then markV (b1 ++ b2) else ν k) = ν k := fun k hk => if_neg (by rw [ltK, Nat.blt_eq] at hk; omega)
  have hlt : ∀ k, ltK m k = true → ltK (m + 1) k = true := fun k hk => by simp only [ltK, Nat.blt_eq] at hk ⊢; omega
  have hgood : Good K Z N w (fun k => if k = m then markV (b1 ++ b2) else ν k) (CS.st ⟨m + 1, env, (m, some .dfr) :: dels [k1, k2] rs, m :: ms⟩) a := by
    refine ⟨hg.size, fun k => ?_, fun s => ⟨men_le hlt (hg.env s).1, R_nu hw (hg.env s).1 (hg.env s).2⟩, ?_, hg.zk, hg.kl, ?_, fun k hk => ?_⟩
    · show (if k = m then _ else _ : Value).oneCell' = true
      split
      · rfl
      · exact hg.one k
    · refine ⟨fun k => if k = m then fun x => x ∈ b1 ++ b2 else Ft k, fun k b hk => ?_⟩
      have hk : lkr ((m, some Blk.dfr) :: dels [k1, k2] rs) k = some b := hk
      rw [lkr_cons] at hk
      have hfar : ∀ x k b, x ∈ b1 ++ b2 → k ≠ k1 → k ≠ k2 → lkr rs k = some b → ¬ Ft k x := fun x k b hx hk1 hk2 hk hx' => by
        rcases List.mem_append.1 hx with h | h
        · exact e1 k b (Ne.symm hk1) hk x ((f1 x).2 h) hx'
        · exact e2 k b (Ne.symm hk2) hk x ((f2 x).2 h) hx'
      by_cases e : k = m
      · subst e
        rw [if_pos rfl] at hk
        obtain rfl : Blk.dfr = b := Option.some.inj hk
        refine ⟨by show Nat.blt k (k + 1) = true; rw [Nat.blt_eq]; omega, trivial, ⟨b1 ++ b2, if_pos rfl, fun b hb => ?_, ?_, fun y => by simp only [if_true]⟩, fun x hx => ?_, fun k' b' hne hk' x hx hx' => ?_⟩
        · rcases List.mem_append.1 hb with h | h
          · exact c1 b h
          · exact c2 b h
        · rw [List.nodup_append]
          refine ⟨n1, n2, fun a ha b hb e => ?_⟩
          subst e
          exact e1 k2 _ hne h2 a ((f1 a).2 ha) ((f2 a).2 hb)
        · simp only [if_true] at hx
          rcases List.mem_append.1 hx with h | h
          · exact d1 x ((f1 x).2 h)
          · exact d2 x ((f2 x).2 h)
        · have hk' : lkr ((k, some Blk.dfr) :: dels [k1, k2] rs) k' = some b' := hk'
          rw [lkr_cons, if_neg (Ne.symm hne)] at hk'
          simp only [if_true] at hx
          simp only [if_neg (Ne.symm hne)] at hx'
          obtain ⟨q1, q2⟩ := lkr_dels hk'
          simp only [List.mem_cons, List.not_mem_nil, or_false, not_or] at q1
          exact hfar x k' b' hx q1.1 q1.2 q2 hx'
      · rw [if_neg e] at hk
        obtain ⟨q1, q2⟩ := lkr_dels hk
        simp only [List.mem_cons, List.not_mem_nil, or_false, not_or] at q1
        obtain ⟨g1, g2, g3, g4, g5⟩ := hF k b q2
        refine ⟨hlt k g1, menB_le hlt g2, ?_, fun x hx => g4 x (by simpa only [if_neg e] using hx), fun k' b' hne hk' x hx hx' => ?_⟩
        · simp only [if_neg e]; exact sat_nu hw g2 g3
        · have hk' : lkr ((m, some Blk.dfr) :: dels [k1, k2] rs) k' = some b' := hk'
          rw [lkr_cons] at hk'
          simp only [if_neg e] at hx
          by_cases e' : k' = m
          · subst e'
            simp only [if_true] at hx'
            exact hfar x k b hx' q1.1 q1.2 q2 hx
          · rw [if_neg e'] at hk'
            simp only [if_neg e'] at hx'
            exact g5 k' b' hne (lkr_dels hk').2 x hx hx'
    · rw [hg.ds]
      show List.flatMap (fun k => markOf (ν k)) (k1 :: k2 :: ms) = List.flatMap (fun k => markOf (if k = m then markV (b1 ++ b2) else ν k)) (m :: ms)
      rw [List.flatMap_cons, List.flatMap_cons, List.flatMap_cons, if_pos rfl, x1, x2]
      have e3 : ∀ bs : List Nat, markOf (markV bs) = bs.map fun r => { target := .collected r, args := #[] } := fun bs => markOf_V
      rw [e3, e3, e3, List.map_append, List.append_assoc]
      refine congrArg _ (congrArg _ (fmC fun k hk => ?_))
      have := hg.ml k (List.mem_cons_of_mem _ (List.mem_cons_of_mem _ hk))
      rw [hw k this]
    · rcases List.mem_cons.1 hk with rfl | hk
      · show Nat.blt k (k + 1) = true
        rw [Nat.blt_eq]; omega
      · exact hlt k (hg.ml k (List.mem_cons_of_mem _ (List.mem_cons_of_mem _ hk)))
  refine wpIn_mono (h n K Z _ w a hgood) ?_
  rintro e a' w' ⟨Z', ν', s', h1, h2, h3, h4⟩
  exact ⟨Z', ν', s', h1, fun k hk => (h2 k hk).trans (if_neg (by omega)), h3, h4⟩
end
end Go.Proofs.Ytlckljphakkomaa.Cal
namespace Go.Proofs.Ytlckljphakkomaa.Cal
open Go
section
variable {P : Program} {ro : Option Nat} {N κ : Nat} {tb : Nat → Option TI}
def awpG (P : Program) (ro : Option Nat) (N κ : Nat) (ops : Array Oper) (l : List Oper) (σ : St) (Q : Exit → St → Prop) : Prop :=
  ∀ n K Z ν w a, Good K Z N w ν σ a → wpListIn (FF ro) n P ops (Post N κ K Z w ν Q) l a w
theorem awp_listG {id : Nat} {l : List Oper} {σ : St} {Q : Exit → St → Prop} (h : awpG P ro N κ l.toArray l σ Q) : awp P ro N κ (.region id l.toArray false) σ Q :=
  fun n K Z ν w a hg => wpIn_region_lit (h n K Z ν w a hg)
theorem awpG_nil {ops : Array Oper} {σ : St} {Q : Exit → St → Prop} (h : Q .normal σ) : awpG P ro N κ ops [] σ Q := fun n K Z ν w a hg => post_now hg h
def noGd (o : Oper) : Oper := { o with guard := none }
theorem awpG_one {ops : Array Oper} {o : Oper} {rest : List Oper} {σ : St} {Q : Exit → St → Prop} (hw : ∀ K Z ν w a, Good K Z N w ν σ a → Region.wanted o (yielded ops a.tmps) = true)
    (h : awpL P ro N κ [noGd o] σ (thenQ (fun s => awpG P ro N κ ops rest s Q) Q)) : awpG P ro N κ ops (o :: rest) σ Q := by
  intro n K Z ν w a hg
  have h1 := h n K Z ν w a hg
  have hw1 : Region.wanted (noGd o) (yielded #[] a.tmps) = true := wanted_none rfl _
  simp only [wpListIn, hw1, if_true] at h1
  simp only [wpListIn, hw K Z ν w a hg, if_true]
  have h2 : o.wpIn (FF ro) n P a w (fun a' w' => Post N κ K Z w ν (thenQ (fun s => awpG P ro N κ ops rest s Q) Q) .normal a' w') (Post N κ K Z w ν (thenQ (fun s => awpG P ro N κ ops rest s Q) Q)) := h1
  refine oper_mono (fun a' w' hp => ?_) (fun e a' w' he hp => ?_) h2
  · obtain ⟨Z', ν', σ', g1, g2, g3, g4⟩ := hp
    exact wpList_mono (fun e a2 w2 hp => hp.trans g1 g2) (g4 n _ _ ν' w' a' g3)
  · obtain ⟨Z', ν', σ', g1, g2, g3, g4⟩ := hp
    refine ⟨Z', ν', σ', g1, g2, g3, ?_⟩
    cases e <;> first | exact absurd rfl he | exact g4
theorem tmp_bool {K Z : Nat → Prop} {w : World} {ν : Nat → Value} {σ : St} {a : Act} {d : Nat} {b : Bool} (hg : Good K Z N w ν σ a) (h : σ.env d = .bool b) : a.tmps[d]? = some (.bool b) := by
  have := (hg.env d).2
  rw [h] at this
  have h2 : a.tmps.getD d undef = .bool b := one1 this
  rw [Array.getD_eq_getD_getElem?] at h2
  cases e : a.tmps[d]? with
  | none => rw [e] at h2; cases h2
  | some v => rw [e] at h2; simp only [Option.getD_some] at h2; rw [h2]
theorem wanted_of {K Z : Nat → Prop} {w : World} {ν : Nat → Value} {σ : St} {a : Act} {ops : Array Oper} {o oi : Oper} {i d : Nat} {b v : Bool} (hg : Good K Z N w ν σ a) (ho : o.guard = some (i, b)) (hi : ops[i]? = some oi) (hd : oi.dst = some d) (h : σ.env d = .bool v) : Region.wanted o (yielded ops a.tmps) = (v == b) := by
  have e : yielded ops a.tmps i = some v := by
    unfold yielded
    rw [hi]
    simp only [Option.bind_some, hd, tmp_bool hg h]
  unfold Region.wanted
  rw [ho]
  simp only [e]
  cases v <;> cases b <;> rfl
theorem awpG_free {ops : Array Oper} {o : Oper} {rest : List Oper} {σ : St} {Q : Exit → St → Prop} (ho : o.guard = none) (h : awpL P ro N κ [noGd o] σ (thenQ (fun s => awpG P ro N κ ops rest s Q) Q)) : awpG P ro N κ ops (o :: rest) σ Q :=
  awpG_one (fun K Z ν w a hg => wanted_none (by rw [ho]; rfl) _) h
theorem awpG_yes {ops : Array Oper} {o oi : Oper} {rest : List Oper} {m : Nat} {env : List (Nat × AV)} {rs : List (Nat × Option Blk)} {ms : List Nat} {Q : Exit → St → Prop} {i d : Nat} {b : Bool} (ho : o.guard = some (i, b)) (hi : ops[i]? = some oi) (hd : oi.dst = some d) (hv : lke env d = .bool b)
    (h : awpL P ro N κ [noGd o] (CS.st ⟨m, env, rs, ms⟩) (thenQ (fun s => awpG P ro N κ ops rest s Q) Q)) : awpG P ro N κ ops (o :: rest) (CS.st ⟨m, env, rs, ms⟩) Q :=
  awpG_one (fun K Z ν w a hg => by rw [wanted_of hg ho hi hd hv]; cases b <;> rfl) h
theorem awpG_no {ops : Array Oper} {o oi : Oper} {rest : List Oper} {m : Nat} {env : List (Nat × AV)} {rs : List (Nat × Option Blk)} {ms : List Nat} {Q : Exit → St → Prop} {i d : Nat} {b : Bool} (ho : o.guard = some (i, b)) (hi : ops[i]? = some oi) (hd : oi.dst = some d) (hv : lke env d = .bool (!b)) (hN : dstOK N [o] = true)
    (h : awpG P ro N κ ops rest (CS.st ⟨m, putE o.dst (.whn false (.bool false)) env, rs, ms⟩) Q) : awpG P ro N κ ops (o :: rest) (CS.st ⟨m, env, rs, ms⟩) Q := by
  intro n K Z ν w a hg
  have hw : Region.wanted o (yielded ops a.tmps) = false := by rw [wanted_of hg ho hi hd hv]; cases b <;> rfl
  simp only [wpListIn, hw]
  refine ⟨fun f hf => trivial, ?_⟩
  have hd' : ∀ d, o.dst = some d → d < N := fun d hd2 => by
    simp [dstOK, hd2] at hN; exact hN
  have hg2 := Good.setd (v := .whn false (.bool false)) (y := undef) hg hd' ⟨(fun h => by cases h), fun _ => rfl⟩ rfl
  refine h n K Z ν w _ ?_
  rw [show CS.st ⟨m, putE o.dst (.whn false (.bool false)) env, rs, ms⟩ = ⟨ltK m, lke (putE o.dst (.whn false (.bool false)) env), lkr rs, ms⟩ from rfl, putE_lke]
  exact hg2
def sV (M : Nat) : List (Nat × Option Blk) → Prop
  | [] => True
  | (k, some b) :: l => (Nat.blt k M = true ∧ menB (ltK M) b) ∧ sV M l
  | (k, none) :: l => sV M l
theorem sV_mem {M : Nat} : ∀ {l : List (Nat × Option Blk)}, sV M l → ∀ k b, lkr l k = some b → k < M ∧ menB (ltK M) b
  | [], _, k, b, hk => by cases hk
  | (j, some c) :: l, h, k, b, hk => by
    rw [lkr_cons] at hk
    by_cases e : k = j
    · rw [if_pos e] at hk
      rw [e, ← Option.some.inj hk]
      exact ⟨by have := h.1.1; rwa [Nat.blt_eq] at this, h.1.2⟩
    · rw [if_neg e] at hk; exact sV_mem h.2 k b hk
  | (j, none) :: l, h, k, b, hk => by
    rw [lkr_cons] at hk
    by_cases e : k = j
    · rw [if_pos e] at hk; cases hk
    · rw [if_neg e] at hk; exact sV_mem (l := l) h k b hk
end
end Go.Proofs.Ytlckljphakkomaa.Cal
namespace Go.Proofs.Ytlckljphakkomaa.Pl
theorem nodup_len : ∀ (n : Nat) (l : List Nat), l.Nodup → (∀ x, x ∈ l → x < n) → l.length ≤ n := by
  intro n
  induction n with
  | zero => intro l _ h; cases l with
    | nil => simp
    | cons a t => exact absurd (h a List.mem_cons_self) (Nat.not_lt_zero _)
  | succ n ih =>
    intro l hn h
    have h1 := ih (l.filter fun x => x != n) (hn.filter _) (fun x hx => by
      rw [List.mem_filter] at hx
      have := h x hx.1
      have h2 : x ≠ n := by simpa using hx.2
      omega)
    have h2 : l.length ≤ (l.filter fun x => x != n).length + 1 := by
      clear ih h h1
      induction l with
      | nil => simp
      | cons a t ih =>
        rw [List.nodup_cons] at hn
        by_cases ha : a = n
        · subst ha
          have : (t.filter fun x => x != a) = t := List.filter_eq_self.2 fun x hx => by
            have : x ≠ a := fun e => hn.1 (e ▸ hx)
            simpa using this
          rw [List.filter_cons]
          simp [this]
        · rw [List.filter_cons]
          have : (a != n) = true := by simpa using ha
          rw [if_pos this]
          have := ih hn.2
          simp only [List.length_cons]
          omega
    omega
/-- The way: f from s, k steps. -/
def orb (f : Nat → Nat) (s : Nat) : Nat → Nat
  | 0 => s
  | k + 1 => f (orb f s k)
def Fresh (f : Nat → Nat) (s k : Nat) : Prop := ∀ i j, i < j → j < k → orb f s i ≠ orb f s j
theorem fresh_le {f : Nat → Nat} {s n k : Nat} (hn : ∀ j, orb f s j < n) (h : Fresh f s k) : k ≤ n := by
  have h1 := nodup_len n ((List.range k).map (orb f s)) (by
    rw [List.nodup_iff_pairwise_ne, List.pairwise_map]
    refine List.Pairwise.imp_of_mem ?_ (List.pairwise_lt_range (n := k))
    intro a b ha hb hab
    exact h a b hab (List.mem_range.1 hb)) (fun x hx => by
    obtain ⟨j, _, rfl⟩ := List.mem_map.1 hx
    exact hn j)
  simpa using h1
theorem fresh_succ {f : Nat → Nat} {s k : Nat} (h : Fresh f s k) (h2 : ∀ i, i < k → orb f s i ≠ orb f s k) : Fresh f s (k + 1) := fun i j hij hj => by
  rcases Nat.lt_succ_iff_lt_or_eq.1 hj with h' | rfl
  · exact h i j hij h'
  · exact h2 i hij
/-- Where the way first comes again to a place: the length of the way, and the place's first time. -/
def Again (f : Nat → Nat) (s L k : Nat) : Prop := Fresh f s L ∧ k < L ∧ orb f s L = orb f s k
theorem again_ex {f : Nat → Nat} {s n : Nat} (hn : ∀ j, orb f s j < n) : ∃ L k, Again f s L k ∧ L ≤ n := by
  have key : ∀ m, m ≤ n + 1 → Fresh f s m ∨ ∃ L k, Again f s L k ∧ L < m := by
    intro m
    induction m with
    | zero => intro _; exact .inl fun i j _ hj => absurd hj (Nat.not_lt_zero _)
    | succ m ih =>
      intro hm
      rcases ih (by omega) with h | ⟨L, k, h, hl⟩
      · by_cases hx : ∃ i, i < m ∧ orb f s i = orb f s m
        · obtain ⟨i, hi, e⟩ := hx
          exact .inr ⟨m, i, ⟨h, hi, e.symm⟩, by omega⟩
        · exact .inl (fresh_succ h fun i hi e => hx ⟨i, hi, e⟩)
      · exact .inr ⟨L, k, h, by omega⟩
  rcases key (n + 1) (Nat.le_refl _) with h | ⟨L, k, h, hl⟩
  · have := fresh_le hn h; omega
  · exact ⟨L, k, h, by omega⟩
end Go.Proofs.Ytlckljphakkomaa.Pl
namespace Go.Proofs.Ytlckljphakkomaa.Cal
theorem take1 {α : Type} {x : List α} {i : Nat} {d : α} (h : i < x.length) : x.take (i + 1) = x.take i ++ [x.getD i d] := by
  rw [List.take_add_one, List.getD_eq_getElem?_getD, List.getElem?_eq_getElem h]; rfl
/-- The positions that are kept, below n. -/
def kp (k : List Bool) (n : Nat) : List Nat := (List.range n).filter fun v => k.getD v false
theorem kp_succ {k : List Bool} {n : Nat} : kp k (n + 1) = if k.getD n false = true then kp k n ++ [n] else kp k n := by
  unfold kp
  rw [List.range_succ, List.filter_append]
  cases h : k.getD n false with
  | true => rw [if_pos rfl]; congr 1; simp only [List.filter_cons, h, List.filter_nil]; rfl
  | false => rw [if_neg (by decide)]; simp only [List.filter_cons, h, List.filter_nil]; exact List.append_nil _
theorem kp_len {k : List Bool} {n : Nat} : (kp k n).length ≤ n := by
  have := List.length_filter_le (fun v => k.getD v false) (List.range n)
  rw [List.length_range] at this; exact this
end Go.Proofs.Ytlckljphakkomaa.Cal
