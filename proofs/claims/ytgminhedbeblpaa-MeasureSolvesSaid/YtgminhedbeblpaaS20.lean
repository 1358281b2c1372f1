/- Own texts of the proof, merged, in order. -/
import Derived.RangeFuncRecord
import Derived.Below
import Derived.Test.YtgminhedbeblpaaS19
set_option linter.unusedVariables false
set_option linter.unusedSimpArgs false
namespace Go.Proofs.Ytgminhedbeblpaa.Cal
open Go
abbrev SemA := List Value → (Nat → Prop) → World → (Nat → Prop) → Prop
/-- A function that yields numbers out of a queue: key 1 a variable that holds the queue's address, key 2 the queue, key 3 its positions (ql between the rounds, qy while hd is handed out), key 4 whatever else; go: there is a round to come; nx: what it leads to. -/
def IterR (P : Program) (gf : Nat) {τ : Type} (I : τ → Prop) (ql qy : τ → List Int) (hd : τ → Int) (go : τ → Prop) (nx : τ → τ → Prop) (st fin : τ → Prop) : Prop :=
  ∀ (A : τ → SemA)
    (hY : ∀ t, I t → go t → YCall P [.int .i64 (hd t)] [(1, some (.box (.own 2))), (2, some (.ints (qy t))), (3, some (.sem [0, 1] (A t)))] 4
      (fun g => ∃ t', I t' ∧ nx t t' ∧ g = ⟨5, .bool true, [(1, some (.box (.own 4))), (4, some (.ints (ql t'))), (3, some (.sem [0, 1] (A t')))]⟩))
    (t0 : τ) (h0 : I t0) (hi0 : st t0),
    FG P gf [.yld 0, .own 1] [(1, some (.box (.own 2))), (2, some (.box (.own 3))), (3, some (.ints (ql t0))), (4, some (.sem [0, 2] (A t0)))] 5
      (fun g => ∃ t', I t' ∧ fin t' ∧ g = ⟨6, resV [], [(1, some (.box (.own 2))), (2, some (.box (.own 5))), (5, some (.ints (ql t'))), (4, some (.sem [0, 2] (A t')))]⟩)
/-- What the loop's caller keeps meanwhile. -/
def ASem (w : World) (Z : Nat → Prop) (ν : Nat → Value) (m lp D : Nat) (rc : Loop) (vq : Value) (S : List (Nat × Option Blk)) : SemA := fun vs Zs ws F =>
  vs = [.map (some lp), vq] ∧ (∀ y, Z y → Zs y ∧ ws.heap[y]? = w.heap[y]?) ∧ F lp ∧ F D ∧ ws.heap[lp]? = some (.loop rc) ∧ ws.heap[D]? = some (.deferred (some [])) ∧
    ∃ (ν' : Nat → Value) (G : Nat → Nat → Prop), (∀ k, (ν' k).oneCell' = true) ∧ (∀ k, k < m → ν' k = ν k) ∧ ∀ k b, lkr S k = some b → sat Zs ws ν' (ν' k) (G k) b ∧ (∀ x, G k x → F x ∧ x ≠ lp ∧ x ≠ D) ∧ ∀ k' b', k ≠ k' → lkr S k' = some b' → ∀ x, G k x → ¬ G k' x
section
variable {w : World} {Z : Nat → Prop} {ν : Nat → Value} {m lp D : Nat} {rc : Loop} {vq : Value} {S : List (Nat × Option Blk)}
theorem ASem_mono {vs : List Value} {Zs Z' : Nat → Prop} {ws w' : World} {F : Nat → Prop} (h : ASem w Z ν m lp D rc vq S vs Zs ws F) (hZ : ∀ y, Zs y → Z' y) (hw : ∀ y, Zs y ∨ F y → w'.heap[y]? = ws.heap[y]?) : ASem w Z ν m lp D rc vq S vs Z' w' F := by
  obtain ⟨h1, h2, h3, h4, h5, h6, ν', G, h7, h8, h9⟩ := h
  refine ⟨h1, fun y hy => ⟨hZ y (h2 y hy).1, (hw y (.inl (h2 y hy).1)).trans (h2 y hy).2⟩, h3, h4, (hw lp (.inr h3)).trans h5, (hw D (.inr h4)).trans h6, ν', G, h7, h8, fun k b hk => ?_⟩
  obtain ⟨g1, g2, g3⟩ := h9 k b hk
  exact ⟨sat_mono hZ (fun y hy => hw y (.inl hy)) (fun y hy => hw y (.inr (g2 y hy).1)) g1, g2, g3⟩
theorem sat_ASem {νc : Nat → Value} {a b : Nat} {Zs : Nat → Prop} {ws : World} {F : Nat → Prop} {x : Value} (h : ASem w Z ν m lp D rc vq S [νc a, νc b] Zs ws F) : sat Zs ws νc x F (.sem [a, b] (ASem w Z ν m lp D rc vq S)) :=
  fun Z' w' h1 h2 => ASem_mono h h1 h2
theorem ASem_of {νc : Nat → Value} {a b : Nat} {Zs : Nat → Prop} {ws : World} {F : Nat → Prop} {x : Value} (h : sat Zs ws νc x F (.sem [a, b] (ASem w Z ν m lp D rc vq S))) : ASem w Z ν m lp D rc vq S [νc a, νc b] Zs ws F :=
  h Zs ws (fun _ h => h) (fun _ _ => rfl)
end
section
variable {P : Program} {ro : Option Nat} {N κ : Nat} {tb : Nat → Option TI}
theorem Good.put {K Z : Nat → Prop} {w : World} {ν : Nat → Value} {σ : St} {a : Act} {r : Nat} {o : Obj} (hg : Good K Z N w ν σ a) (hK : K r) (hZ : ¬ Z r) : Good K Z N (w.putObj r o) ν σ a := by
  have hz : ∀ b, Z b → (w.putObj r o).heap[b]? = w.heap[b]? := fun b hb => World.putObj_heap_other (fun e => hZ (e ▸ hb))
  refine ⟨hg.size, hg.one, fun s => ⟨(hg.env s).1, R_mono (fun _ h => h) hz (hg.env s).2⟩, ?_, hg.zk, fun b hb => by rw [World.putObj_size]; exact hg.kl b hb, hg.ds, hg.ml⟩
  exact hg.rs.mono (fun _ h => h) hz (by rw [World.putObj_size]; exact Nat.le_refl _) (fun _ h => .inl h) (fun b hb _ => World.putObj_heap_other (fun e => hb (e ▸ hK)))
/-- What a round begins with and gives back. -/
def fullR (kq M : Nat) (q : List Int) (S : List (Nat × Option Blk)) : List (Nat × Option Blk) := (kq, some (.box (.own M))) :: (M, some (.ints q)) :: S
def roundG (κ : Nat) {τ : Type} (I : τ → Prop) (ql : τ → List Int) (nx : τ → τ → Prop) (S : τ → List (Nat × Option Blk)) (kq M : Nat) (t : τ) (e : Exit) (s : St) : Prop :=
  e = .normal ∧ ∃ (cs : CS) (t' : τ) (ρ : List (Nat × Nat)), s = cs.st ∧ LeC κ cs ρ ⟨M + 1, [], fullR kq M (ql t') (S t'), []⟩ ∧ I t' ∧ nx t t'
/-- One round, as yield's contract. -/
theorem round_yields {τ : Type} {I : τ → Prop} {ql qy : τ → List Int} {hd : τ → Int} {go : τ → Prop} {nx : τ → τ → Prop} {S : τ → List (Nat × Option Blk)} {kq M m p fn lp D : Nat} {env : List (Nat × AV)} {assign body : Code} {w : World} {Z : Nat → Prop} {ν : Nat → Value} {a : Act} {rc : Loop}
    (hrc : rc = { state := .ready, pending := none, fn, tmps := a.tmps, params := #[p], assign, body, defers := D }) (hp : p < N) (hsz : a.tmps.size = N) (hkq : kq < m) (hmM : m ≤ M) (hlD : lp ≠ D)
    (henv : ∀ s, men (ltK m) (lke env s) = true ∧ R Z w (lke env s) ν true [a.tmps.getD s undef])
    (hS : ∀ t k b, I t → lkr (S t) k = some b → k < M ∧ k ≠ kq ∧ menB (ltK M) b)
    (round : ∀ t, I t → go t → awp P (some lp) N m assign (CS.st ⟨M + 1, (p, .int .i64 (hd t)) :: env, fullR kq M (qy t) (S t), []⟩) (fun e s => e = .normal ∧ awp P (some lp) N m body s (roundG m I ql nx S kq M t)))
    (t : τ) (ht : I t) (hi : go t) :
    YCall P [.int .i64 (hd t)] [(1, some (.box (.own 2))), (2, some (.ints (qy t))), (3, some (.sem [0, 1] (ASem w Z ν m lp D rc (ν kq) (S t))))] 4
      (fun g => ∃ t', I t' ∧ nx t t' ∧ g = ⟨5, .bool true, [(1, some (.box (.own 4))), (4, some (.ints (ql t'))), (3, some (.sem [0, 1] (ASem w Z ν m lp D rc (ν kq) (S t'))))]⟩) := by
  intro n K1 Z1 ν1 w1 vals l hone hvals hG hzk hkl hl
  obtain ⟨F1, hF1⟩ := hG
  obtain ⟨_, _, q1, q2, q3⟩ := hF1 1 (.box (.own 2)) rfl
  obtain ⟨_, _, i1, i2, i3⟩ := hF1 2 (.ints (qy t)) rfl
  obtain ⟨_, _, s1, s2, s3⟩ := hF1 3 (.sem [0, 1] (ASem w Z ν m lp D rc (ν kq) (S t))) rfl
  obtain ⟨a1, a2, a3, a4, a5, a6, ν', G, a7, a8, a9⟩ := ASem_of s1
  have e0 : ν1 0 = .map (some lp) := by injection a1
  have e1 : ν1 1 = ν kq := by injection a1 with _ h; injection h
  obtain rfl : l = lp := by rw [hl] at e0; injection e0 with h; injection h
  obtain ⟨v, vs, hvv, r1, r2⟩ := hvals
  have r1 := one1 r1
  have r2 : vs = [] := r2
  subst r1 r2
  have hvals2 : vals = #[.int .i64 (hd t)] := by rw [← Array.toList_inj, hvv]
  subst hrc
  have hy := run_yield (P := P) (args := vals) a5 (by rw [hvals2]; rfl)
  have htm : ∀ (T : Array Value) (v : Value), ((#[p] : Array Tmp).zip #[v]).foldl (fun tmps (x : Tmp × Value) => tmps.setIfInBounds x.1 x.2) T = T.setIfInBounds p v := fun T v => by simp
  refine ⟨_, _, _, _, hy, roundIn_of_wpIn trivial ?_⟩
  have htm2 := htm a.tmps (.int .i64 (hd t))
  rw [← hvals2] at htm2
  have hlz : ¬ Z1 l := fun h => (s2 l a3).1 (hzk l h)
  have hDz : ¬ Z1 D := fun h => (s2 D a4).1 (hzk D h)
  -- the round's own view
  have hgood : Good (fun b => K1 b ∨ b = l ∨ b = D) Z1 N w1 (fun k => if k = M then ν1 2 else ν' k) (CS.st ⟨M + 1, (p, .int .i64 (hd t)) :: env, fullR kq M (qy t) (S t), []⟩) { tmps := a.tmps.setIfInBounds p (.int .i64 (hd t)), defers := [] } := by
    have hνm : ∀ k, ltK m k = true → (if k = M then ν1 2 else ν' k) = ν k := fun k hk => by
      rw [ltK, Nat.blt_eq] at hk
      rw [if_neg (by omega)]; exact a8 k hk
    refine ⟨by simp [hsz], fun k => ?_, fun s => ?_, ?_, fun b hb => .inl (hzk b hb), fun b hb => ?_, rfl, fun k hk => by cases hk⟩
    · show (if k = M then _ else _ : Value).oneCell' = true
      split
      · exact hone 2
      · exact a7 k
    · show men (ltK (M + 1)) (lke ((p, _) :: env) s) = true ∧ R Z1 w1 (lke ((p, _) :: env) s) _ true _
      rw [lke_cons]
      by_cases hs : s = p
      · subst hs
        simp only [if_true]
        refine ⟨rfl, ?_⟩
        show [_] = [_]
        simp [Array.getD_eq_getD_getElem?, hsz, hp]
      · simp only [if_neg hs]
        obtain ⟨g1, g2⟩ := henv s
        refine ⟨men_le (fun k hk => by simp only [ltK, Nat.blt_eq] at hk ⊢; omega) g1, ?_⟩
        have : (a.tmps.setIfInBounds p (.int .i64 (hd t))).getD s undef = a.tmps.getD s undef := by
          simp [Array.getD_eq_getD_getElem?, Array.getElem?_setIfInBounds, Ne.symm hs]
        show R Z1 w1 (lke env s) _ true [(a.tmps.setIfInBounds p (.int .i64 (hd t))).getD s undef]
        rw [this]
        exact R_nu hνm g1 (R_mono (fun y hy => (a2 y hy).1) (fun y hy => (a2 y hy).2) g2)
    · refine ⟨fun k => if k = kq then F1 1 else if k = M then F1 2 else G k, fun k b hk => ?_⟩
      have hcase : ∀ {k b}, lkr (fullR kq M (qy t) (S t)) k = some b → (k = kq ∧ b = .box (.own M)) ∨ (k = M ∧ k ≠ kq ∧ b = .ints (qy t)) ∨ (k ≠ kq ∧ k ≠ M ∧ lkr (S t) k = some b) := by
        intro k b hk
        unfold fullR at hk
        rw [lkr_cons] at hk
        by_cases h1 : k = kq
        · rw [if_pos h1] at hk; exact .inl ⟨h1, (Option.some.inj hk).symm⟩
        · rw [if_neg h1, lkr_cons] at hk
          by_cases h2 : k = M
          · rw [if_pos h2] at hk; exact .inr (.inl ⟨h2, h1, (Option.some.inj hk).symm⟩)
          · rw [if_neg h2] at hk; exact .inr (.inr ⟨h1, h2, hk⟩)
      have hkM : ∀ k b, k ≠ M → lkr (S t) k = some b → sat Z1 w1 (fun k => if k = M then ν1 2 else ν' k) (ν' k) (G k) b ∧ menB (ltK (M + 1)) b := fun k b hkM hk => by
        obtain ⟨b1, b2, b3⟩ := hS t k b ht hk
        exact ⟨sat_nu (μ := ltK M) (fun j hj => if_neg (by rw [ltK, Nat.blt_eq] at hj; omega)) b3 (a9 k b hk).1, menB_le (fun j hj => by simp only [ltK, Nat.blt_eq] at hj ⊢; omega) b3⟩
      have hMq : M ≠ kq := by omega
      have hlt : ∀ j, j < M + 1 → ltK (M + 1) j = true := fun j hj => by rw [ltK, Nat.blt_eq]; exact hj
      -- which footprint
      have hkind : ∀ {k b}, lkr (fullR kq M (qy t) (S t)) k = some b → ∃ i, (i = 1 ∨ i = 2 ∨ i = 3) ∧ (∀ x, (if k = kq then F1 1 else if k = M then F1 2 else G k) x → F1 i x ∧ x ≠ l ∧ x ≠ D) ∧ (i = 1 ↔ k = kq) ∧ (i = 2 ↔ k = M) := by
        intro k b hk
        rcases hcase hk with ⟨rfl, rfl⟩ | ⟨rfl, h1, rfl⟩ | ⟨h1, h2, h3⟩
        · refine ⟨1, .inl rfl, fun x hx => ?_, by simp, by omega⟩
          rw [if_pos rfl] at hx
          exact ⟨hx, fun e => q3 3 _ (by omega) rfl x hx (e ▸ a3), fun e => q3 3 _ (by omega) rfl x hx (e ▸ a4)⟩
        · refine ⟨2, .inr (.inl rfl), fun x hx => ?_, by omega, by simp⟩
          rw [if_neg h1, if_pos rfl] at hx
          exact ⟨hx, fun e => i3 3 _ (by omega) rfl x hx (e ▸ a3), fun e => i3 3 _ (by omega) rfl x hx (e ▸ a4)⟩
        · refine ⟨3, .inr (.inr rfl), fun x hx => ?_, by omega, by omega⟩
          rw [if_neg h1, if_neg h2] at hx
          exact (a9 k b h3).2.1 x hx
      have hFK : ∀ {i x}, (i = 1 ∨ i = 2 ∨ i = 3) → F1 i x → ¬ K1 x ∧ x < w1.heap.size := by
        rintro i x (rfl | rfl | rfl) h
        · exact q2 x h
        · exact i2 x h
        · exact s2 x h
      have hFF : ∀ {i j x}, (i = 1 ∨ i = 2 ∨ i = 3) → (j = 1 ∨ j = 2 ∨ j = 3) → i ≠ j → F1 i x → ¬ F1 j x := by
        rintro i j x (rfl | rfl | rfl) hj hne h
        · rcases hj with rfl | rfl | rfl
          · exact absurd rfl hne
          · exact q3 2 _ (by omega) rfl x h
          · exact q3 3 _ (by omega) rfl x h
        · rcases hj with rfl | rfl | rfl
          · exact i3 1 _ (by omega) rfl x h
          · exact absurd rfl hne
          · exact i3 3 _ (by omega) rfl x h
        · rcases hj with rfl | rfl | rfl
          · exact s3 1 _ (by omega) rfl x h
          · exact s3 2 _ (by omega) rfl x h
          · exact absurd rfl hne
      obtain ⟨i, hi1, hi2, hi3, hi4⟩ := hkind hk
      refine ⟨?_, ?_, ?_, fun x hx => ?_, fun k' b' hne hk' x hx => ?_⟩
      · rcases hcase hk with ⟨rfl, rfl⟩ | ⟨rfl, h1, rfl⟩ | ⟨h1, h2, h3⟩
        · exact hlt _ (by omega)
        · exact hlt _ (by omega)
        · exact hlt _ (by have := (hS t k b ht h3).1; omega)
      · rcases hcase hk with ⟨rfl, rfl⟩ | ⟨rfl, h1, rfl⟩ | ⟨h1, h2, h3⟩
        · exact hlt _ (by omega)
        · exact trivial
        · exact (hkM k b h2 h3).2
      · dsimp only
        rcases hcase hk with ⟨rfl, rfl⟩ | ⟨rfl, h1, rfl⟩ | ⟨h1, h2, h3⟩
        · rw [if_pos rfl, if_neg (by omega : ¬ k = M)]
          obtain ⟨b, cells, T, t1, t2, t3, t4⟩ := q1
          refine ⟨b, cells, T, ?_, t2, ?_, t4⟩
          · rw [a8 k hkq, ← e1]; exact t1
          · show cells.toList = [(if M = M then ν1 2 else ν' M)]
            rw [if_pos rfl]; exact t3
        · rw [if_neg h1, if_pos rfl, if_pos rfl]; exact i1
        · rw [if_neg h1, if_neg h2, if_neg h2]; exact (hkM k b h2 h3).1
      · obtain ⟨h1, h2, h3⟩ := hi2 x hx
        obtain ⟨h4, h5⟩ := hFK hi1 h1
        refine ⟨?_, h5⟩
        rintro (h | h | h)
        · exact h4 h
        · exact h2 h
        · exact h3 h
      · obtain ⟨i', hi1', hi2', hi3', hi4'⟩ := hkind hk'
        intro hx'
        dsimp only at hx hx'
        by_cases hii : i = i'
        · subst hii
          -- both from the rest
          have hk1 : k ≠ kq := fun e => by
            have h1 := hi3.2 e
            exact hne (e.trans (hi3'.1 h1).symm)
          have hk2 : k ≠ M := fun e => by
            have h1 := hi4.2 e
            exact hne (e.trans (hi4'.1 h1).symm)
          have hk1' : k' ≠ kq := fun e => hk1 (hi3.1 (hi3'.2 e))
          have hk2' : k' ≠ M := fun e => hk2 (hi4.1 (hi4'.2 e))
          rw [if_neg hk1, if_neg hk2] at hx
          rw [if_neg hk1', if_neg hk2'] at hx'
          rcases hcase hk with ⟨h, _⟩ | ⟨h, _⟩ | ⟨_, _, h3⟩
          · exact hk1 h
          · exact hk2 h
          rcases hcase hk' with ⟨h, _⟩ | ⟨h, _⟩ | ⟨_, _, h3'⟩
          · exact hk1' h
          · exact hk2' h
          exact (a9 k b h3).2.2 k' b' hne h3' x hx hx'
        · exact hFF hi1 hi1' hii (hi2 x hx).1 (hi2' x hx').1
    · rcases hb with h | rfl | rfl
      · exact hkl b h
      · exact (Array.getElem?_eq_some_iff.1 a5).1
      · exact (Array.getElem?_eq_some_iff.1 a6).1
  have hasg := round t ht hi n _ Z1 _ w1 _ hgood
  have hasg2 : assign.wpIn ((FF none).inRound l) n P _ { tmps := a.tmps.setIfInBounds p (.int .i64 (hd t)), defers := [] } w1 := hasg
  rw [← htm2] at hasg2
  refine wpIn_mono hasg2 ?_
  rintro e a2' w2 ⟨Z2, ν2, σ2, st2, nu2, good2, rfl, hbody⟩
  -- the round begins
  have hl2 : w2.heap[l]? = _ := (st2.ext.block l (.inr (.inl rfl))).trans a5
  have hZl : ∀ {Zx : Nat → Prop} {wx : World}, Step (fun b => K1 b ∨ b = l ∨ b = D) Z1 w1 Zx wx → ¬ Zx l ∧ ¬ Zx D := fun h =>
    ⟨fun hz => (h.new l hz).elim hlz fun h => h (.inr (.inl rfl)), fun hz => (h.new D hz).elim hDz fun h => h (.inr (.inr rfl))⟩
  refine ⟨_, run_beginRound hl2 rfl, ?_⟩
  have good3 := good2.put (r := l) (o := .loop { state := .busy, pending := none, fn := fn, tmps := a.tmps, params := #[p], assign := assign, body := body, defers := D }) (.inl (.inr (.inl rfl))) (hZl st2).1
  have hb := hbody n _ _ _ _ _ good3
  refine wpIn_mono (show body.wpIn ((FF none).inRound l) n P _ a2' _ from hb) ?_
  rintro e a3' w3 ⟨Z3, ν3, σ3, st3, nu3, good4, rfl, cs, t', ρ, rfl, hle, ht', hi'⟩
  have hKl : ∀ b, (K1 b ∨ b = l ∨ b = D) → un (fun b => K1 b ∨ b = l ∨ b = D) Z2 b := fun b h => .inl h
  have hl3 : w3.heap[l]? = some (.loop { state := .busy, pending := none, fn := fn, tmps := a.tmps, params := #[p], assign := assign, body := body, defers := D }) :=
    (st3.ext.block l (hKl l (.inr (.inl rfl)))).trans (World.putObj_heap_same (Array.getElem?_eq_some_iff.1 hl2).1)
  have hD3 : w3.heap[D]? = some (.deferred (some [])) :=
    (st3.ext.block D (hKl D (.inr (.inr rfl)))).trans ((World.putObj_heap_other (Ne.symm hlD)).trans ((st2.ext.block D (.inr (.inr rfl))).trans a6))
  refine ⟨_, _, run_endRound none hl3, ?_⟩
  have hle2 := Good.le good4 (le_of ρ hle.chk hle.env hle.rs)
  obtain ⟨H, hH⟩ := hle2.rs
  have hid := (le_of ρ hle.chk hle.env hle.rs).id
  -- the step from the round's begin to its end
  have hK1 : ∀ b, K1 b → b ≠ l ∧ b ≠ D := fun b hb => ⟨fun e => (s2 l a3).1 (e ▸ hb), fun e => (s2 D a4).1 (e ▸ hb)⟩
  have hstep : Step K1 Z1 w1 Z3 (w3.putObj l (.loop { state := .ready, pending := none, fn := fn, tmps := a.tmps, params := #[p], assign := assign, body := body, defers := D })) := by
    refine ⟨⟨st3.ext.os.trans st2.ext.os, st3.ext.tape.trans st2.ext.tape, st3.ext.output.trans st2.ext.output, ?_, fun b hb => ?_⟩, fun b hb => st3.le b (st2.le b hb), fun b hb => ?_⟩
    · have h1 := st2.ext.size
      have h2 := st3.ext.size
      rw [World.putObj_size] at h2 ⊢
      omega
    · exact (World.putObj_heap_other (hK1 b hb).1).trans ((st3.ext.block b (hKl b (.inl hb))).trans ((World.putObj_heap_other (hK1 b hb).1).trans (st2.ext.block b (.inl hb))))
    · rcases st3.new b hb with h | h
      · rcases st2.new b h with h | h
        · exact .inl h
        · exact .inr fun hk => h (.inl hk)
      · exact .inr fun hk => h (.inl (.inl hk))
  have hz3 : ¬ Z3 l ∧ ¬ Z3 D := by
    refine ⟨fun h => ?_, fun h => ?_⟩
    · rcases st3.new l h with h | h
      · exact (hZl st2).1 h
      · exact h (hKl l (.inr (.inl rfl)))
    · rcases st3.new D h with h | h
      · exact (hZl st2).2 h
      · exact h (hKl D (.inr (.inr rfl)))
  have n5 : ∀ k, k < m → ν3 (rhoL ρ k) = ν k := fun k hk => by
    rw [hid k hk, nu3 k hk, nu2 k hk]
    show (if k = M then _ else _ : Value) = _
    rw [if_neg (by omega), a8 k hk]
  have lq : lkr (fullR kq M (ql t') (S t')) kq = some (.box (.own M)) := by unfold fullR; rw [lkr_cons, if_pos rfl]
  have lM : lkr (fullR kq M (ql t') (S t')) M = some (.ints (ql t')) := by unfold fullR; rw [lkr_cons, if_neg (by omega), lkr_cons, if_pos rfl]
  have lS : ∀ k b, lkr (S t') k = some b → k ≠ kq ∧ k ≠ M ∧ lkr (fullR kq M (ql t') (S t')) k = some b := fun k b hk => by
    obtain ⟨b1, b2, b3⟩ := hS t' k b ht' hk
    refine ⟨b2, by omega, ?_⟩
    unfold fullR; rw [lkr_cons, if_neg b2, lkr_cons, if_neg (by omega)]; exact hk
  obtain ⟨_, _, u1, u2, u3⟩ := hH kq _ lq
  obtain ⟨_, _, v1, v2, v3⟩ := hH M _ lM
  have hout : ∀ k b, lkr (fullR kq M (ql t') (S t')) k = some b → ∀ x, H k x → ¬ un K1 Z3 x ∧ x < w3.heap.size ∧ x ≠ l ∧ x ≠ D := fun k b hk x hx => by
    obtain ⟨_, _, _, h2, _⟩ := hH k b hk
    obtain ⟨h3, h4⟩ := h2 x hx
    refine ⟨fun h => h3 ?_, h4, fun e => h3 ?_, fun e => h3 ?_⟩
    · rcases h with h | h
      · exact .inl (hKl x (.inl h))
      · exact .inr h
    · exact .inl (hKl x (.inr (.inl e)))
    · exact .inl (hKl x (.inr (.inr e)))
  have hput : ∀ x, x ≠ l → (w3.putObj l (.loop { state := .ready, pending := none, fn := fn, tmps := a.tmps, params := #[p], assign := assign, body := body, defers := D })).heap[x]? = w3.heap[x]? := fun x hx => World.putObj_heap_other hx
  have hZput : ∀ x, Z3 x → (w3.putObj l (.loop { state := .ready, pending := none, fn := fn, tmps := a.tmps, params := #[p], assign := assign, body := body, defers := D })).heap[x]? = w3.heap[x]? := fun x hx => hput x (fun e => hz3.1 (e ▸ hx))
  have hlt3 : l < w3.heap.size := (Array.getElem?_eq_some_iff.1 hl3).1
  have hDt3 : D < w3.heap.size := (Array.getElem?_eq_some_iff.1 hD3).1
  refine ⟨.bool true, Z3, fun k => if k < 4 then ν1 k else ν3 (rhoL ρ M), ⟨5, .bool true, [(1, some (.box (.own 4))), (4, some (.ints (ql t'))), (3, some (.sem [0, 1] (ASem w Z ν m l D _ (ν kq) (S t'))))]⟩, rfl, hstep, fun k => ?_, fun k hk => if_pos hk, rfl, rfl, ?_, fun b hb => ?_, ⟨t', ht', hi', rfl⟩, by show 4 ≤ 5; omega⟩
  · dsimp only
    split
    · exact hone k
    · exact hle2.one M
  · refine ⟨fun k => if k = 1 then H kq else if k = 4 then H M else fun x => x = l ∨ x = D ∨ ∃ k b, lkr (S t') k = some b ∧ H k x, fun k b hk => ?_⟩
    have hc : ∀ {k b}, lkr [(1, some (Blk.box (.own 4))), (4, some (.ints (ql t'))), (3, some (.sem [0, 1] (ASem w Z ν m l D { state := .ready, pending := none, fn := fn, tmps := a.tmps, params := #[p], assign := assign, body := body, defers := D } (ν kq) (S t'))))] k = some b →
        (k = 1 ∧ b = .box (.own 4)) ∨ (k = 4 ∧ b = .ints (ql t')) ∨ (k = 3 ∧ b = .sem [0, 1] (ASem w Z ν m l D { state := .ready, pending := none, fn := fn, tmps := a.tmps, params := #[p], assign := assign, body := body, defers := D } (ν kq) (S t'))) := by
      intro k b hk
      rw [lkr_cons] at hk
      by_cases h1 : k = 1
      · rw [if_pos h1] at hk; exact .inl ⟨h1, (Option.some.inj hk).symm⟩
      · rw [if_neg h1, lkr_cons] at hk
        by_cases h2 : k = 4
        · rw [if_pos h2] at hk; exact .inr (.inl ⟨h2, (Option.some.inj hk).symm⟩)
        · rw [if_neg h2, lkr_cons] at hk
          by_cases h3 : k = 3
          · rw [if_pos h3] at hk; exact .inr (.inr ⟨h3, (Option.some.inj hk).symm⟩)
          · rw [if_neg h3] at hk; cases hk
    -- every footprint lies under one of the round's keys, or is one of the two blocks
    have hfoot : ∀ {k b}, (k = 1 ∧ b = Blk.box (.own 4)) ∨ (k = 4 ∧ b = .ints (ql t')) ∨ (k = 3 ∧ b = .sem [0, 1] (ASem w Z ν m l D { state := .ready, pending := none, fn := fn, tmps := a.tmps, params := #[p], assign := assign, body := body, defers := D } (ν kq) (S t'))) →
        ∀ x, (if k = 1 then H kq else if k = 4 then H M else fun x => x = l ∨ x = D ∨ ∃ k b, lkr (S t') k = some b ∧ H k x) x →
          (k = 1 ∧ H kq x) ∨ (k = 4 ∧ H M x) ∨ (k = 3 ∧ (x = l ∨ x = D ∨ ∃ k b, lkr (S t') k = some b ∧ H k x)) := by
      intro k b hk x hx
      rcases hk with ⟨rfl, _⟩ | ⟨rfl, _⟩ | ⟨rfl, _⟩
      · exact .inl ⟨rfl, hx⟩
      · exact .inr (.inl ⟨rfl, hx⟩)
      · exact .inr (.inr ⟨rfl, hx⟩)
    have hlD1 : (¬ un K1 Z3 l ∧ l < w3.heap.size) ∧ (¬ un K1 Z3 D ∧ D < w3.heap.size) := by
      refine ⟨⟨?_, hlt3⟩, ⟨?_, hDt3⟩⟩
      · rintro (h | h)
        · exact (hK1 l h).1 rfl
        · exact hz3.1 h
      · rintro (h | h)
        · exact (hK1 D h).2 rfl
        · exact hz3.2 h
    have hk := hc hk
    refine ⟨?_, ?_, ?_, fun x hx => ?_, fun k' b' hne hk' x hx hx' => ?_⟩
    · rcases hk with ⟨rfl, _⟩ | ⟨rfl, _⟩ | ⟨rfl, _⟩ <;> rfl
    · rcases hk with ⟨_, rfl⟩ | ⟨_, rfl⟩ | ⟨_, rfl⟩
      · rfl
      · exact trivial
      · intro j hj
        simp only [List.mem_cons, List.not_mem_nil, or_false] at hj
        rcases hj with rfl | rfl <;> rfl
    · rcases hk with ⟨rfl, rfl⟩ | ⟨rfl, rfl⟩ | ⟨rfl, rfl⟩
      · obtain ⟨b, cells, T, t1, t2, t3, t4⟩ := u1
        refine ⟨b, cells, T, ?_, ?_, ?_, t4⟩
        · show ν1 1 = _
          rw [e1, ← n5 kq hkq]; exact t1
        · exact (hput b (hout kq _ lq b ((t4 b).2 rfl)).2.2.1).trans t2
        · exact t3
      · exact sat_mono (fun _ h => h) hZput (fun x hx => hput x (hout M _ lM x hx).2.2.1) v1
      · refine sat_ASem (νc := fun k => if k < 4 then ν1 k else ν3 (rhoL ρ M)) ⟨?_, fun y hy => ⟨?_, ?_⟩, .inl rfl, .inr (.inl rfl), World.putObj_heap_same hlt3, (hput D (Ne.symm hlD)).trans hD3, fun k => ν3 (rhoL ρ k), H, hle2.one, n5, fun k b hk => ?_⟩
        · show [ν1 0, ν1 1] = _
          exact a1
        · exact hstep.le y (a2 y hy).1
        · exact (hstep.ext.block y (hzk y (a2 y hy).1)).trans (a2 y hy).2
        · obtain ⟨c1, c2, c3⟩ := lS k b hk
          obtain ⟨_, _, g1, g2, g3⟩ := hH k b c3
          refine ⟨sat_mono (fun _ h => h) hZput (fun x hx => hput x (hout k b c3 x hx).2.2.1) g1, fun x hx => ⟨.inr (.inr ⟨k, b, hk, hx⟩), (hout k b c3 x hx).2.2⟩, fun k' b' hne hk' => g3 k' b' hne (lS k' b' hk').2.2⟩
    · rw [World.putObj_size]
      rcases hfoot hk x hx with ⟨_, h⟩ | ⟨_, h⟩ | ⟨_, h | h | ⟨k2, b2, h2, h⟩⟩
      · exact ⟨(hout kq _ lq x h).1, (hout kq _ lq x h).2.1⟩
      · exact ⟨(hout M _ lM x h).1, (hout M _ lM x h).2.1⟩
      · rw [h]; exact hlD1.1
      · rw [h]; exact hlD1.2
      · exact ⟨(hout k2 b2 (lS k2 b2 h2).2.2 x h).1, (hout k2 b2 (lS k2 b2 h2).2.2 x h).2.1⟩
    · have hk' := hc hk'
      have d1 : ∀ x, H kq x → ¬ H M x := u3 M _ (by omega) lM
      have d2 : ∀ x k b, H kq x → lkr (S t') k = some b → ¬ H k x := fun x k b h hk => u3 k b (Ne.symm (lS k b hk).1) (lS k b hk).2.2 x h
      have d3 : ∀ x k b, H M x → lkr (S t') k = some b → ¬ H k x := fun x k b h hk => v3 k b (Ne.symm (lS k b hk).2.1) (lS k b hk).2.2 x h
      rcases hfoot hk x hx with ⟨r1, h⟩ | ⟨r1, h⟩ | ⟨r1, h⟩ <;> rcases hfoot hk' x hx' with ⟨r2, h'⟩ | ⟨r2, h'⟩ | ⟨r2, h'⟩
      · exact hne (r1.trans r2.symm)
      · exact d1 x h h'
      · rcases h' with h' | h' | ⟨k2, b2, h2, h'⟩
        · exact (hout kq _ lq x h).2.2.1 h'
        · exact (hout kq _ lq x h).2.2.2 h'
        · exact d2 x k2 b2 h h2 h'
      · exact d1 x h' h
      · exact hne (r1.trans r2.symm)
      · rcases h' with h' | h' | ⟨k2, b2, h2, h'⟩
        · exact (hout M _ lM x h).2.2.1 h'
        · exact (hout M _ lM x h).2.2.2 h'
        · exact d3 x k2 b2 h h2 h'
      · rcases h with h | h | ⟨k2, b2, h2, h⟩
        · exact (hout kq _ lq x h').2.2.1 h
        · exact (hout kq _ lq x h').2.2.2 h
        · exact d2 x k2 b2 h' h2 h
      · rcases h with h | h | ⟨k2, b2, h2, h⟩
        · exact (hout M _ lM x h').2.2.1 h
        · exact (hout M _ lM x h').2.2.2 h
        · exact d3 x k2 b2 h' h2 h
      · exact hne (r1.trans r2.symm)
  · rw [World.putObj_size]
    exact hle2.kl b (hle2.zk b hb)
theorem heap_alloc0 (w : World) (o : Obj) (k : Nat) (h : k < w.heap.size) : (w.alloc o).heap[k]? = w.heap[k]? := by
  show (w.heap.push o)[k]? = _
  rw [Array.getElem?_push, if_neg (by omega)]
theorem cases4 {k : Nat} {b b1 b2 b3 b4 : Blk} (hk : lkr [(1, some b1), (2, some b2), (3, some b3), (4, some b4)] k = some b) : (k = 1 ∧ b = b1) ∨ (k = 2 ∧ b = b2) ∨ (k = 3 ∧ b = b3) ∨ (k = 4 ∧ b = b4) := by
  rw [lkr_cons] at hk
  by_cases h1 : k = 1
  · rw [if_pos h1] at hk; exact .inl ⟨h1, (Option.some.inj hk).symm⟩
  · rw [if_neg h1, lkr_cons] at hk
    by_cases h2 : k = 2
    · rw [if_pos h2] at hk; exact .inr (.inl ⟨h2, (Option.some.inj hk).symm⟩)
    · rw [if_neg h2, lkr_cons] at hk
      by_cases h3 : k = 3
      · rw [if_pos h3] at hk; exact .inr (.inr (.inl ⟨h3, (Option.some.inj hk).symm⟩))
      · rw [if_neg h3, lkr_cons] at hk
        by_cases h4 : k = 4
        · rw [if_pos h4] at hk; exact .inr (.inr (.inr ⟨h4, (Option.some.inj hk).symm⟩))
        · rw [if_neg h4] at hk; cases hk
theorem menE_lke {m : Nat} : ∀ {env : List (Nat × AV)}, menE m env = true → ∀ s, men (ltK m) (lke env s) = true
  | [], _, _ => rfl
  | (k, v) :: t, h, s => by
    simp only [menE, Bool.and_eq_true] at h
    rw [lke_cons]
    split
    · exact h.1
    · exact menE_lke h.2 s
/-- The loop 'for v := range waiting(&queue)'. -/
theorem awp_rangeG {gOp : Operand} {p gf m M kb kq : Nat} {assign body : Code} {env : List (Nat × AV)} {Q : Exit → St → Prop} {τ : Type} (I : τ → Prop) (ql qy : τ → List Int) (hd : τ → Int) (go : τ → Prop) (nx : τ → τ → Prop) (st fin : τ → Prop) (S : τ → List (Nat × Option Blk)) (t0 : τ)
    (hIter : IterR P gf I ql qy hd go nx st fin) (h0 : I t0) (hi0 : st t0)
    (hgo : opv (lke env) gOp = .fn gf (.cons (.own kb) .nil)) (hp : Nat.blt p N = true) (hkb : Nat.blt kb m = true) (hkq : Nat.blt kq m = true) (hbq : Nat.beq kb kq = false) (hmM : Nat.ble m M = true) (hκ : Nat.ble κ m = true) (hmen : menE m env = true)
    (hS : ∀ t k b, I t → lkr (S t) k = some b → k < M ∧ k ≠ kq ∧ k ≠ kb ∧ menB (ltK M) b)
    (round : ∀ lp t, I t → go t → awp P (some lp) N m assign (CS.st ⟨M + 1, (p, .int .i64 (hd t)) :: env, fullR kq M (qy t) (S t), []⟩) (fun e s => e = .normal ∧ awp P (some lp) N m body s (roundG m I ql nx S kq M t)))
    (next : ∀ t, I t → fin t → Q .normal (CS.st ⟨M + 2, env, (M + 1, some .dfr) :: fullR kq M (ql t) (S t), [M + 1]⟩)) :
    awp P none N κ (.rangeFunc gOp #[p] assign body) (CS.st ⟨M + 1, env, (kb, some (.box (.own kq))) :: fullR kq M (ql t0) (S t0), []⟩) Q := by
  rw [Nat.blt_eq] at hp hkb hkq
  have hmM := Nat.le_of_ble_eq_true hmM
  have hκ := Nat.le_of_ble_eq_true hκ
  have hbq : kb ≠ kq := by rintro rfl; rw [Nat.beq_refl] at hbq; cases hbq
  intro n K Z ν w a hg
  refine wpIn_rangeFunc ?_
  intro fn _
  obtain ⟨rc, hrc⟩ : ∃ rc : Loop, rc = { state := .ready, pending := none, fn, tmps := a.tmps, params := #[p], assign, body, defers := w.heap.size } := ⟨_, rfl⟩
  obtain ⟨W1, hW1⟩ : ∃ W1, (w.alloc (.deferred (some []))).alloc (.loop rc) = W1 := ⟨_, rfl⟩
  have hs1 : W1.heap.size = w.heap.size + 2 := by rw [← hW1, World.size_alloc, World.size_alloc]
  have hL1 : W1.heap[w.heap.size + 1]? = some (.loop rc) := by
    rw [← hW1]; have := World.alloc_heap_new (w.alloc (.deferred (some []))) (.loop rc); rwa [World.size_alloc] at this
  have hD1 : W1.heap[w.heap.size]? = some (.deferred (some [])) := by
    rw [← hW1]; exact (heap_alloc0 _ _ _ (by rw [World.size_alloc]; omega)).trans (World.alloc_heap_new w _)
  have hold : ∀ b, b < w.heap.size → W1.heap[b]? = w.heap[b]? := fun b hb => by
    rw [← hW1]; exact (heap_alloc0 _ _ _ (by rw [World.size_alloc]; omega)).trans (heap_alloc0 _ _ _ hb)
  have hos : W1.os = w.os ∧ W1.tape = w.tape ∧ W1.output = w.output := by rw [← hW1]; exact ⟨rfl, rfl, rfl⟩
  have hev := opv_R hg gOp
  rw [show opv (CS.st ⟨M + 1, env, (kb, some (.box (.own kq))) :: fullR kq M (ql t0) (S t0), []⟩).env gOp = _ from hgo] at hev
  obtain ⟨cv, ecv, rcv⟩ := hev
  have ecv := one1 ecv
  obtain ⟨vb, vs, hcv, rb, rn⟩ := rcv
  have rb := one1 rb
  have rn : vs = [] := rn
  subst rb rn hcv
  have henv : ∀ s, men (ltK m) (lke env s) = true ∧ R Z w (lke env s) ν true [a.tmps.getD s undef] := fun s => ⟨menE_lke hmen s, (hg.env s).2⟩
  have hdef : a.defers = [] := hg.ds
  have hFG := hIter (fun t => ASem w Z ν m (w.heap.size + 1) w.heap.size rc (ν kq) (S t))
    (fun t ht hi => round_yields hrc hp hg.size hkq hmM (by omega) henv (fun t k b ht hk => ⟨(hS t k b ht hk).1, (hS t k b ht hk).2.1, (hS t k b ht hk).2.2.2⟩) (fun t ht hi => round _ t ht hi) t ht hi) t0 h0 hi0
  obtain ⟨⟨fn', hfn', hname, hbody⟩, hcall⟩ := hFG
  have eg : ∀ args w, (callFunc gf args).run P w = .ok (.enter gf args) w := by
    intro args w
    simp [callFunc, hfn', Sem.run_bind, Result.andThen, Sem.run, program]
    have hname' : ¬ fn'.name = "runtime.NumGoroutine" := by simpa using hname
    cases hb : fn'.body with
    | none => rw [hb] at hbody; cases hbody
    | some c => simp [hname', hb, Sem.run]
  obtain ⟨Ft, hF⟩ := id hg.rs
  have lb : lkr ((kb, some (.box (.own kq))) :: fullR kq M (ql t0) (S t0)) kb = some (.box (.own kq)) := by rw [lkr_cons, if_pos rfl]
  have lq : lkr ((kb, some (.box (.own kq))) :: fullR kq M (ql t0) (S t0)) kq = some (.box (.own M)) := by rw [lkr_cons, if_neg (Ne.symm hbq)]; unfold fullR; rw [lkr_cons, if_pos rfl]
  have lM : lkr ((kb, some (.box (.own kq))) :: fullR kq M (ql t0) (S t0)) M = some (.ints (ql t0)) := by rw [lkr_cons, if_neg (by omega)]; unfold fullR; rw [lkr_cons, if_neg (by omega), lkr_cons, if_pos rfl]
  have lS : ∀ k b, lkr (S t0) k = some b → k ≠ kb ∧ k ≠ kq ∧ k ≠ M ∧ lkr ((kb, some (.box (.own kq))) :: fullR kq M (ql t0) (S t0)) k = some b := fun k b hk => by
    obtain ⟨b1, b2, b3, b4⟩ := hS t0 k b h0 hk
    refine ⟨b3, b2, by omega, ?_⟩
    rw [lkr_cons, if_neg b3]; unfold fullR; rw [lkr_cons, if_neg b2, lkr_cons, if_neg (by omega)]; exact hk
  have hKz : ∀ b, Z b → b < w.heap.size := fun b hb => hg.kl b (hg.zk b hb)
  have hsat : ∀ k b, lkr ((kb, some (.box (.own kq))) :: fullR kq M (ql t0) (S t0)) k = some b → sat Z W1 ν (ν k) (Ft k) b := fun k b hk => by
    obtain ⟨_, _, h3, h4, _⟩ := hF k b hk
    exact sat_mono (fun _ h => h) (fun x hx => hold x (hKz x hx)) (fun x hx => hold x (h4 x hx).2) h3
  have hcl := hcall K Z (fun j => if j = 0 then .map (some (w.heap.size + 1)) else if j = 1 then ν kb else if j = 2 then ν kq else if j = 3 then ν M else .nilFunc) W1 #[.func (.yield (w.heap.size + 1)) #[] #[], ν kb]
    (fun k => by
      repeat' split
      all_goals first | rfl | exact hg.one _)
    ⟨_, _, rfl, ⟨w.heap.size + 1, rfl, rfl⟩, _, _, rfl, rfl, rfl⟩ rfl
    (by
      refine ⟨fun k => if k = 1 then Ft kb else if k = 2 then Ft kq else if k = 3 then Ft M else fun x => x = w.heap.size + 1 ∨ x = w.heap.size ∨ ∃ k b, lkr (S t0) k = some b ∧ Ft k x, fun k b hk => ?_⟩
      have hdis : ∀ x, ∀ k b, lkr ((kb, some (.box (.own kq))) :: fullR kq M (ql t0) (S t0)) k = some b → Ft k x → ¬ K x ∧ x < w.heap.size := fun x k b hk hx => (hF k b hk).2.2.2.1 x hx
      have hc : (k = 1 ∧ b = .box (.own 2)) ∨ (k = 2 ∧ b = .box (.own 3)) ∨ (k = 3 ∧ b = .ints (ql t0)) ∨ (k = 4 ∧ b = .sem [0, 2] (ASem w Z ν m (w.heap.size + 1) w.heap.size rc (ν kq) (S t0))) := by
        exact cases4 hk
      have hfx : ∀ {k b x}, ((k = 1 ∧ b = Blk.box (.own 2)) ∨ (k = 2 ∧ b = .box (.own 3)) ∨ (k = 3 ∧ b = .ints (ql t0)) ∨ (k = 4 ∧ b = .sem [0, 2] (ASem w Z ν m (w.heap.size + 1) w.heap.size rc (ν kq) (S t0)))) →
          (if k = 1 then Ft kb else if k = 2 then Ft kq else if k = 3 then Ft M else fun x => x = w.heap.size + 1 ∨ x = w.heap.size ∨ ∃ k b, lkr (S t0) k = some b ∧ Ft k x) x →
          ∃ k0, (k0 = k) ∧ ((k0 = 1 ∧ Ft kb x) ∨ (k0 = 2 ∧ Ft kq x) ∨ (k0 = 3 ∧ Ft M x) ∨ (k0 = 4 ∧ (x = w.heap.size + 1 ∨ x = w.heap.size ∨ ∃ k b, lkr (S t0) k = some b ∧ Ft k x))) := by
        intro k b x hk hx
        rcases hk with ⟨rfl, _⟩ | ⟨rfl, _⟩ | ⟨rfl, _⟩ | ⟨rfl, _⟩
        · exact ⟨1, rfl, .inl ⟨rfl, hx⟩⟩
        · exact ⟨2, rfl, .inr (.inl ⟨rfl, hx⟩)⟩
        · exact ⟨3, rfl, .inr (.inr (.inl ⟨rfl, hx⟩))⟩
        · exact ⟨4, rfl, .inr (.inr (.inr ⟨rfl, hx⟩))⟩
      refine ⟨?_, ?_, ?_, fun x hx => ?_, fun k' b' hne hk' x hx hx' => ?_⟩
      · rcases hc with ⟨rfl, _⟩ | ⟨rfl, _⟩ | ⟨rfl, _⟩ | ⟨rfl, _⟩ <;> rfl
      · rcases hc with ⟨_, rfl⟩ | ⟨_, rfl⟩ | ⟨_, rfl⟩ | ⟨_, rfl⟩
        · rfl
        · rfl
        · exact trivial
        · intro j hj
          simp only [List.mem_cons, List.not_mem_nil, or_false] at hj
          rcases hj with rfl | rfl <;> rfl
      · rcases hc with ⟨rfl, rfl⟩ | ⟨rfl, rfl⟩ | ⟨rfl, rfl⟩ | ⟨rfl, rfl⟩
        · obtain ⟨b, cells, T, t1, t2, t3, t4⟩ := hsat _ _ lb
          exact ⟨b, cells, T, t1, t2, t3, t4⟩
        · obtain ⟨b, cells, T, t1, t2, t3, t4⟩ := hsat _ _ lq
          exact ⟨b, cells, T, t1, t2, t3, t4⟩
        · exact hsat _ _ lM
        · refine sat_ASem (νc := fun j => if j = 0 then .map (some (w.heap.size + 1)) else if j = 1 then ν kb else if j = 2 then ν kq else if j = 3 then ν M else .nilFunc) ⟨rfl, fun y hy => ⟨hy, hold y (hKz y hy)⟩, .inl rfl, .inr (.inl rfl), hL1, hD1, ν, Ft, hg.one, fun _ _ => rfl, fun k b hk => ?_⟩
          obtain ⟨c1, c2, c3, c4⟩ := lS k b hk
          refine ⟨hsat k b c4, fun x hx => ⟨.inr (.inr ⟨k, b, hk, hx⟩), ?_, ?_⟩, fun k' b' hne hk' => (hF k b c4).2.2.2.2 k' b' hne (lS k' b' hk').2.2.2⟩
          · have := (hdis x k b c4 hx).2; omega
          · have := (hdis x k b c4 hx).2; omega
      · have hKs : ∀ x, K x → x < w.heap.size := hg.kl
        obtain ⟨k0, rfl, h⟩ := hfx hc hx
        rcases h with ⟨_, h⟩ | ⟨_, h⟩ | ⟨_, h⟩ | ⟨_, h | h | ⟨k2, b2, h2, h⟩⟩
        · exact ⟨(hdis x _ _ lb h).1, by have := (hdis x _ _ lb h).2; omega⟩
        · exact ⟨(hdis x _ _ lq h).1, by have := (hdis x _ _ lq h).2; omega⟩
        · exact ⟨(hdis x _ _ lM h).1, by have := (hdis x _ _ lM h).2; omega⟩
        · exact ⟨fun hk => by have := hKs x hk; omega, by omega⟩
        · exact ⟨fun hk => by have := hKs x hk; omega, by omega⟩
        · exact ⟨(hdis x _ _ (lS k2 b2 h2).2.2.2 h).1, by have := (hdis x _ _ (lS k2 b2 h2).2.2.2 h).2; omega⟩
      · obtain ⟨k0, rfl, h⟩ := hfx hc hx
        obtain ⟨k0', rfl, h'⟩ := hfx (cases4 hk') hx'
        -- where a footprint comes from
        have hsrc : ∀ {i x}, ((i = 1 ∧ Ft kb x) ∨ (i = 2 ∧ Ft kq x) ∨ (i = 3 ∧ Ft M x) ∨ (i = 4 ∧ (x = w.heap.size + 1 ∨ x = w.heap.size ∨ ∃ k b, lkr (S t0) k = some b ∧ Ft k x))) →
            (w.heap.size ≤ x ∧ i = 4) ∨ ∃ k b, lkr ((kb, some (.box (.own kq))) :: fullR kq M (ql t0) (S t0)) k = some b ∧ Ft k x ∧ (i = 1 ↔ k = kb) ∧ (i = 2 ↔ k = kq) ∧ (i = 3 ↔ k = M) := by
          rintro i x (⟨rfl, h⟩ | ⟨rfl, h⟩ | ⟨rfl, h⟩ | ⟨rfl, h | h | ⟨k2, b2, h2, h⟩⟩)
          · exact .inr ⟨kb, _, lb, h, by simp, by omega, by omega⟩
          · exact .inr ⟨kq, _, lq, h, by omega, by simp, by omega⟩
          · exact .inr ⟨M, _, lM, h, by omega, by omega, by simp⟩
          · exact .inl ⟨by omega, rfl⟩
          · exact .inl ⟨by omega, rfl⟩
          · obtain ⟨c1, c2, c3, c4⟩ := lS k2 b2 h2
            exact .inr ⟨k2, b2, c4, h, by omega, by omega, by omega⟩
        have hr1 : k0 = 1 ∨ k0 = 2 ∨ k0 = 3 ∨ k0 = 4 := by rcases h with ⟨h, _⟩ | ⟨h, _⟩ | ⟨h, _⟩ | ⟨h, _⟩ <;> omega
        have hr2 : k0' = 1 ∨ k0' = 2 ∨ k0' = 3 ∨ k0' = 4 := by rcases h' with ⟨h, _⟩ | ⟨h, _⟩ | ⟨h, _⟩ | ⟨h, _⟩ <;> omega
        rcases hsrc h with ⟨h1, h2⟩ | ⟨k1, b1, g1, g2, g3, g4, g5⟩ <;> rcases hsrc h' with ⟨h1', h2'⟩ | ⟨k1', b1', g1', g2', g3', g4', g5'⟩
        · omega
        · have := (hdis x _ _ g1' g2').2; omega
        · have := (hdis x _ _ g1 g2).2; omega
        · refine (hF k1 b1 g1).2.2.2.2 k1' b1' (fun e => ?_) g1' x g2 g2'
          subst e
          omega)
    hg.zk (fun b hb => by rw [hs1]; have := hg.kl b hb; omega)
  refine ⟨w.heap.size + 1, [{ target := .collected w.heap.size, args := #[] }], W1, { target := .fn (.func gf) [ν kb].toArray, args := #[.func (.yield (w.heap.size + 1)) #[] #[]] }, W1, gf, #[.func (.yield (w.heap.size + 1)) #[] #[]] ++ [ν kb].toArray, W1, ?_, ?_, ?_, ?_, (fun h => by cases h), ?_⟩
  · rw [← hW1, hrc]; exact run_enterLoop_outer _ _ _ _ _
  · simp only [resolve, ecv]
    simp [go_sem]
  · intro f' _; exact trivial
  · simp [invoke, go_sem, eg]
  refine CallsIn.mono (ff_calls hcl) ?_
  rintro e W' ⟨y, Z', ν', v, μ', rs', rfl, hst, h1', hν, _, hr', hm', ⟨Fn, hFn⟩, hz, g, ⟨t', ht', hi', rfl⟩, rfl, rfl, _, rfl⟩
  obtain ⟨_, _, q1, q2, q3⟩ := hFn 2 (.box (.own 5)) rfl
  obtain ⟨_, _, i1, i2, i3⟩ := hFn 5 (.ints (ql t')) rfl
  obtain ⟨_, _, s1, s2, s3⟩ := hFn 4 (.sem [0, 2] (ASem w Z ν m (w.heap.size + 1) w.heap.size rc (ν kq) (S t'))) rfl
  obtain ⟨a1, a2, a3, a4, a5, a6, νA, G, a7, a8, a9⟩ := ASem_of s1
  have e2 : ν' 2 = ν kq := hν 2 (by omega)
  have hDz : ¬ Z' w.heap.size := fun h => (s2 _ a4).1 (.inr h)
  have hlz : ¬ Z' (w.heap.size + 1) := fun h => (s2 _ a3).1 (.inr h)
  have hput : ∀ x, x ≠ w.heap.size + 1 → (W'.putObj (w.heap.size + 1) (.loop { rc with state := .exhausted })).heap[x]? = W'.heap[x]? := fun x hx => World.putObj_heap_other hx
  have hZput : ∀ x, Z' x → (W'.putObj (w.heap.size + 1) (.loop { rc with state := .exhausted })).heap[x]? = W'.heap[x]? := fun x hx => hput x (fun e => hlz (e ▸ hx))
  have hend := run_endLoop (P := P) a5 (by rw [hrc]; intro h; cases h)
  have hpend : rc.pending = none := by rw [hrc]
  have hend := hend.trans (congrArg (fun q => Result.ok q (W'.putObj (w.heap.size + 1) (.loop { rc with state := .exhausted }))) hpend)
  refine ⟨none, _, hend, ?_⟩
  have hstep : Step K Z w Z' (W'.putObj (w.heap.size + 1) (.loop { rc with state := .exhausted })) := by
    refine ⟨⟨hst.ext.os.trans hos.1, hst.ext.tape.trans hos.2.1, hst.ext.output.trans hos.2.2, ?_, fun b hb => ?_⟩, hst.le, hst.new⟩
    · have := hst.ext.size; rw [World.putObj_size]; omega
    · have := hg.kl b hb
      exact (hput b (by omega)).trans ((hst.ext.block b hb).trans (hold b this))
  have hK' : ∀ x, (∃ i b, lkr [(1, some (Blk.box (.own 2))), (2, some (.box (.own 5))), (5, some (.ints (ql t'))), (4, some (.sem [0, 2] (ASem w Z ν m (w.heap.size + 1) w.heap.size rc (ν kq) (S t'))))] i = some b ∧ Fn i x) → ¬ un K Z' x ∧ x < W'.heap.size := fun x ⟨i, b, h1, h2⟩ => (hFn i b h1).2.2.2.1 x h2
  refine ⟨Z', fun k => if k = M + 1 then .map (some w.heap.size) else if k = M then ν' 5 else νA k, CS.st ⟨M + 2, env, (M + 1, some .dfr) :: fullR kq M (ql t') (S t'), [M + 1]⟩, hstep, fun k hk => ?_, ?_, next t' ht' hi'⟩
  · dsimp only
    rw [if_neg (by omega), if_neg (by omega)]; exact a8 k (by omega)
  have hνm : ∀ k, ltK m k = true → (if k = M + 1 then Value.map (some w.heap.size) else if k = M then ν' 5 else νA k) = ν k := fun k hk => by
    rw [ltK, Nat.blt_eq] at hk
    rw [if_neg (by omega), if_neg (by omega)]; exact a8 k hk
  refine ⟨hg.size, fun k => ?_, fun s => ?_, ?_, fun b hb => .inr hb, fun b hb => ?_, ?_, fun k hk => ?_⟩
  · show (if k = M + 1 then _ else if k = M then _ else _ : Value).oneCell' = true
    split
    · rfl
    · split
      · exact h1' 5
      · exact a7 k
  · obtain ⟨g1, g2⟩ := henv s
    refine ⟨men_le (fun k hk => by simp only [CS.st, ltK, Nat.blt_eq] at hk ⊢; omega) g1, R_nu hνm g1 (R_mono hst.le (fun y hy => ?_) g2)⟩
    exact (hZput y (hst.le y hy)).trans ((hst.ext.block y (hg.zk y hy)).trans (hold y (hKz y hy)))
  · -- what it holds now
    have hc : ∀ {k b}, lkr ((M + 1, some Blk.dfr) :: fullR kq M (ql t') (S t')) k = some b → (k = M + 1 ∧ b = .dfr) ∨ (k = kq ∧ b = .box (.own M)) ∨ (k = M ∧ b = .ints (ql t')) ∨ (k < M ∧ k ≠ kq ∧ lkr (S t') k = some b) := by
      intro k b hk
      rw [lkr_cons] at hk
      by_cases h1 : k = M + 1
      · rw [if_pos h1] at hk; exact .inl ⟨h1, (Option.some.inj hk).symm⟩
      · rw [if_neg h1] at hk
        unfold fullR at hk
        rw [lkr_cons] at hk
        by_cases h2 : k = kq
        · rw [if_pos h2] at hk; exact .inr (.inl ⟨h2, (Option.some.inj hk).symm⟩)
        · rw [if_neg h2, lkr_cons] at hk
          by_cases h3 : k = M
          · rw [if_pos h3] at hk; exact .inr (.inr (.inl ⟨h3, (Option.some.inj hk).symm⟩))
          · rw [if_neg h3] at hk
            have := hS t' k b ht' hk
            exact .inr (.inr (.inr ⟨this.1, this.2.1, hk⟩))
    refine ⟨fun k => if k = M + 1 then fun x => x = w.heap.size else if k = kq then Fn 2 else if k = M then Fn 5 else G k, fun k b hk => ?_⟩
    have hc1 := hc hk
    have hfx : ∀ {k b x}, ((k = M + 1 ∧ b = Blk.dfr) ∨ (k = kq ∧ b = .box (.own M)) ∨ (k = M ∧ b = .ints (ql t')) ∨ (k < M ∧ k ≠ kq ∧ lkr (S t') k = some b)) →
        (if k = M + 1 then fun x => x = w.heap.size else if k = kq then Fn 2 else if k = M then Fn 5 else G k) x →
        (k = M + 1 ∧ x = w.heap.size) ∨ (k = kq ∧ Fn 2 x) ∨ (k = M ∧ Fn 5 x) ∨ (k < M ∧ k ≠ kq ∧ G k x ∧ Fn 4 x ∧ x ≠ w.heap.size + 1 ∧ x ≠ w.heap.size) := by
      intro k b x hk hx
      rcases hk with ⟨rfl, _⟩ | ⟨rfl, _⟩ | ⟨rfl, _⟩ | ⟨h1, h2, h3⟩
      · rw [if_pos rfl] at hx; exact .inl ⟨rfl, hx⟩
      · rw [if_neg (by omega), if_pos rfl] at hx; exact .inr (.inl ⟨rfl, hx⟩)
      · rw [if_neg (by omega), if_neg (by omega), if_pos rfl] at hx; exact .inr (.inr (.inl ⟨rfl, hx⟩))
      · rw [if_neg (by omega), if_neg h2, if_neg (by omega)] at hx
        obtain ⟨g1, g2, g3⟩ := (a9 k b h3).2.1 x hx
        exact .inr (.inr (.inr ⟨h1, h2, hx, g1, g2, g3⟩))
    have n2 : ∀ x, Fn 2 x → x ≠ w.heap.size ∧ x ≠ w.heap.size + 1 := fun x h => ⟨fun e => q3 4 _ (by omega) rfl x h (e ▸ a4), fun e => q3 4 _ (by omega) rfl x h (e ▸ a3)⟩
    have n5 : ∀ x, Fn 5 x → x ≠ w.heap.size ∧ x ≠ w.heap.size + 1 := fun x h => ⟨fun e => i3 4 _ (by omega) rfl x h (e ▸ a4), fun e => i3 4 _ (by omega) rfl x h (e ▸ a3)⟩
    have d25 : ∀ x, Fn 2 x → ¬ Fn 5 x := fun x h => q3 5 _ (by omega) rfl x h
    have d24 : ∀ x, Fn 2 x → ¬ Fn 4 x := fun x h => q3 4 _ (by omega) rfl x h
    have d54 : ∀ x, Fn 5 x → ¬ Fn 4 x := fun x h => i3 4 _ (by omega) rfl x h
    have hlt : ∀ j, j < M + 2 → ltK (M + 2) j = true := fun j hj => by rw [ltK, Nat.blt_eq]; exact hj
    refine ⟨?_, ?_, ?_, fun x hx => ?_, fun k' b' hne hk' x hx hx' => ?_⟩
    · rcases hc1 with ⟨rfl, _⟩ | ⟨rfl, _⟩ | ⟨rfl, _⟩ | ⟨h1, _⟩ <;> exact hlt _ (by omega)
    · rcases hc1 with ⟨_, rfl⟩ | ⟨_, rfl⟩ | ⟨_, rfl⟩ | ⟨_, _, h3⟩
      · exact trivial
      · exact hlt _ (by omega)
      · exact trivial
      · exact menB_le (fun j hj => by simp only [CS.st, ltK, Nat.blt_eq] at hj ⊢; omega) (hS t' k b ht' h3).2.2.2
    · rcases hc1 with ⟨rfl, rfl⟩ | ⟨rfl, rfl⟩ | ⟨rfl, rfl⟩ | ⟨h1, h2, h3⟩
      · dsimp only
        rw [if_pos rfl, if_pos rfl]
        exact ⟨w.heap.size, rfl, (hput _ (by omega)).trans a6, fun y => Iff.rfl⟩
      · dsimp only
        rw [if_neg (by omega), if_neg (by omega), if_neg (by omega), if_pos rfl]
        obtain ⟨b, cells, T, t1, t2, t3, t4⟩ := q1
        refine ⟨b, cells, T, by rw [a8 k hkq, ← e2]; exact t1, (hput b (n2 b ((t4 b).2 rfl)).2).trans t2, ?_, t4⟩
        show cells.toList = [(if M = M + 1 then _ else if M = M then ν' 5 else νA M)]
        rw [if_neg (by omega), if_pos rfl]; exact t3
      · dsimp only
        rw [if_neg (by omega), if_pos rfl, if_neg (by omega), if_neg (by omega), if_pos rfl]
        exact sat_mono (fun _ h => h) hZput (fun x hx => hput x (n5 x hx).2) i1
      · dsimp only
        rw [if_neg (by omega), if_neg (by omega), if_neg (by omega), if_neg h2, if_neg (by omega)]
        obtain ⟨g1, g2, g3⟩ := a9 k b h3
        exact sat_nu (μ := ltK M) (fun j hj => by rw [ltK, Nat.blt_eq] at hj; rw [if_neg (by omega), if_neg (by omega)]) (hS t' k b ht' h3).2.2.2 (sat_mono (fun _ h => h) hZput (fun x hx => hput x (g2 x hx).2.1) g1)
    · rw [World.putObj_size]
      rcases hfx hc1 hx with ⟨_, rfl⟩ | ⟨_, h⟩ | ⟨_, h⟩ | ⟨_, _, _, h, _⟩
      · exact s2 _ a4
      · exact q2 x h
      · exact i2 x h
      · exact s2 x h
    · rcases hfx hc1 hx with ⟨r1, h⟩ | ⟨r1, h⟩ | ⟨r1, h⟩ | ⟨r1, r1', hG, h, _, hD⟩ <;> rcases hfx (hc hk') hx' with ⟨r2, h'⟩ | ⟨r2, h'⟩ | ⟨r2, h'⟩ | ⟨r2, r2', hG', h', _, hD'⟩
      · exact hne (r1.trans r2.symm)
      · exact (n2 x h').1 h
      · exact (n5 x h').1 h
      · exact hD' h
      · exact (n2 x h).1 h'
      · exact hne (r1.trans r2.symm)
      · exact d25 x h h'
      · exact d24 x h h'
      · exact (n5 x h).1 h'
      · exact d25 x h' h
      · exact hne (r1.trans r2.symm)
      · exact d54 x h h'
      · exact hD h'
      · exact d24 x h' h
      · exact d54 x h' h
      · rcases hc1 with ⟨e, _⟩ | ⟨e, _⟩ | ⟨e, _⟩ | ⟨_, _, g⟩
        · omega
        · exact r1' e
        · omega
        rcases hc hk' with ⟨e, _⟩ | ⟨e, _⟩ | ⟨e, _⟩ | ⟨_, _, g'⟩
        · omega
        · exact r2' e
        · omega
        exact (a9 k b g).2.2 k' b' hne g' x hG hG'
  · rw [World.putObj_size]
    rcases hb with hb | hb
    · have h1 := hg.kl b hb
      have h2 := hst.ext.size
      omega
    · exact hz b hb
  · show _ ++ a.defers = [markOf (if M + 1 = M + 1 then _ else _)]
    rw [hdef, if_pos rfl]; rfl
  · simp only [CS.st, List.mem_cons, List.not_mem_nil, or_false] at hk
    subst hk
    show Nat.blt (M + 1) (M + 2) = true
    rw [Nat.blt_eq]; exact Nat.lt_succ_self _
/-- A function that yields a queue's positions and takes them off; ms goes down. -/
def IterP (P : Program) (gf : Nat) : Prop := ∀ {τ : Type} (I : τ → Prop) (ql : τ → List Int) (ms : τ → Nat) (hq : ∀ t, I t → (ql t).length ≤ 1000000000),
  IterR P gf I ql (fun t => (ql t).drop 1) (fun t => (ql t).getD 0 0) (fun t => 0 < (ql t).length) (fun t t' => ms t' < ms t) (fun _ => True) (fun t => ql t = [])
def roundP (κ : Nat) {τ : Type} (I : τ → Prop) (ql : τ → List Int) (ms : τ → Nat) (S : τ → List (Nat × Option Blk)) (kq M : Nat) (t : τ) (e : Exit) (s : St) : Prop :=
  e = .normal ∧ ∃ (cs : CS) (t' : τ) (ρ : List (Nat × Nat)), s = cs.st ∧ LeC κ cs ρ ⟨M + 1, [], fullR kq M (ql t') (S t'), []⟩ ∧ I t' ∧ ms t' < ms t
/-- The loop 'for v := range queue(&waiting)'. -/
theorem awp_rangeP {gOp : Operand} {p gf m M kb kq : Nat} {assign body : Code} {env : List (Nat × AV)} {Q : Exit → St → Prop} {τ : Type} (I : τ → Prop) (ql : τ → List Int) (ms : τ → Nat) (S : τ → List (Nat × Option Blk)) (t0 : τ)
    (hIter : IterP P gf) (h0 : I t0) (hq : ∀ t, I t → (ql t).length ≤ 1000000000)
    (hgo : opv (lke env) gOp = .fn gf (.cons (.own kb) .nil)) (hp : Nat.blt p N = true) (hkb : Nat.blt kb m = true) (hkq : Nat.blt kq m = true) (hbq : Nat.beq kb kq = false) (hmM : Nat.ble m M = true) (hκ : Nat.ble κ m = true) (hmen : menE m env = true)
    (hS : ∀ t k b, I t → lkr (S t) k = some b → k < M ∧ k ≠ kq ∧ k ≠ kb ∧ menB (ltK M) b)
    (round : ∀ lp t, I t → 0 < (ql t).length → awp P (some lp) N m assign (CS.st ⟨M + 1, (p, .int .i64 ((ql t).getD 0 0)) :: env, fullR kq M ((ql t).drop 1) (S t), []⟩) (fun e s => e = .normal ∧ awp P (some lp) N m body s (roundP m I ql ms S kq M t)))
    (next : ∀ t, I t → ql t = [] → Q .normal (CS.st ⟨M + 2, env, (M + 1, some .dfr) :: fullR kq M (ql t) (S t), [M + 1]⟩)) :
    awp P none N κ (.rangeFunc gOp #[p] assign body) (CS.st ⟨M + 1, env, (kb, some (.box (.own kq))) :: fullR kq M (ql t0) (S t0), []⟩) Q :=
  awp_rangeG I ql (fun t => (ql t).drop 1) (fun t => (ql t).getD 0 0) (fun t => 0 < (ql t).length) (fun t t' => ms t' < ms t) (fun _ => True) (fun t => ql t = []) S t0 (hIter I ql ms hq) h0 trivial hgo hp hkb hkq hbq hmM hκ hmen hS round next
end
def sOK (M kq kb : Nat) : List (Nat × Option Blk) → Prop
  | [] => True
  | (k, some B) :: t => (k < M ∧ k ≠ kq ∧ k ≠ kb ∧ menB (ltK M) B) ∧ sOK M kq kb t
  | (_, none) :: t => sOK M kq kb t
theorem sOK_mem {M kq kb k : Nat} {B : Blk} : ∀ {l : List (Nat × Option Blk)}, sOK M kq kb l → (k, some B) ∈ l → k < M ∧ k ≠ kq ∧ k ≠ kb ∧ menB (ltK M) B
  | [], _, h => absurd h List.not_mem_nil
  | (j, none) :: t, hg, h => by
    rcases List.mem_cons.1 h with e | h
    · cases e
    · exact sOK_mem (l := t) hg h
  | (j, some B') :: t, hg, h => by
    rcases List.mem_cons.1 h with e | h
    · cases e; exact hg.1
    · exact sOK_mem (l := t) hg.2 h
end Go.Proofs.Ytgminhedbeblpaa.Cal
