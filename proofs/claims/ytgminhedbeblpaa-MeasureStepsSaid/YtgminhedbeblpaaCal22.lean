/- The rules over written-out states. -/
import Derived.Test.YtgminhedbeblpaaCal21
set_option linter.unusedVariables false
set_option linter.unusedSimpArgs false
namespace Go.Proofs.Ytgminhedbeblpaa.Cal
open Go

structure EO where
  m : Nat
  env : List (Nat × AV)
  l : List (Nat × Option Blk)
  ob : Prop

def evStep (tb : Nat → Option TI) (sp : Nat → Option Spec) (ch : Nat → Bool) (m : Nat) (all : List Oper) (o : Oper) (i : Nat) : EO → EO
  | ⟨k, e, l, ob⟩ => match evo tb sp all (opv (lke e)) l (m + i) (ch i) o with
    | none => ⟨k, e, l, False⟩
    | some ⟨val, _, wr, _, ob1⟩ => ⟨k + 1, putE o.dst val e, setW wr l, ob ∧ ob1⟩
def evOut (tb : Nat → Option TI) (sp : Nat → Option Spec) (ch : Nat → Bool) (m : Nat) (all : List Oper) : List Oper → Nat → EO → EO
  | [], _, s => s
  | o :: t, i, s => evOut tb sp ch m all t (i + 1) (evStep tb sp ch m all o i s)

section
variable {P : Program} {ro : Option Nat} {N κ : Nat} {tb : Nat → Option TI} {sp : Nat → Option Spec}

theorem evOut_ob (ch : Nat → Bool) (m : Nat) (all : List Oper) : ∀ (os : List Oper) (i : Nat) (s : EO), (evOut tb sp ch m all os i s).ob → s.ob := by
  intro os
  induction os with
  | nil => intro i s h; exact h
  | cons o t ih =>
    intro i s h
    have := ih (i + 1) _ h
    obtain ⟨k, e, l, ob⟩ := s
    simp only [evStep] at this
    split at this
    · exact this.elim
    · exact this.1

theorem evOut_eq (ch : Nat → Bool) (m : Nat) (all : List Oper) : ∀ (os : List Oper) (i k : Nat) (e : List (Nat × AV)) (l : List (Nat × Option Blk)) (ob : Prop), (evOut tb sp ch m all os i ⟨k, e, l, ob⟩).ob → (evOut tb sp ch m all os i ⟨k, e, l, ob⟩).env = (evOps tb sp ch m all os i e l).env ∧ (evOut tb sp ch m all os i ⟨k, e, l, ob⟩).l = (evOps tb sp ch m all os i e l).l ∧
    (evOps tb sp ch m all os i e l).ob ∧ (evOut tb sp ch m all os i ⟨k, e, l, ob⟩).m = k + os.length := by
  intro os
  induction os with
  | nil => intro i k e l ob h; exact ⟨rfl, rfl, trivial, rfl⟩
  | cons o t ih =>
    intro i k e l ob h
    simp only [evOut, evOps, evStep] at h ⊢
    cases hev : evo tb sp all (opv (lke e)) l (m + i) (ch i) o with
    | none =>
      rw [hev] at h
      exact (evOut_ob ch m all t (i + 1) _ h).elim
    | some r =>
      obtain ⟨val, rd, wr, kn, ob1⟩ := r
      rw [hev] at h
      dsimp only at h ⊢
      have hob := evOut_ob ch m all t (i + 1) _ h
      obtain ⟨h1, h2, h3, h4⟩ := ih (i + 1) (k + 1) (putE o.dst val e) (setW wr l) (ob ∧ ob1) h
      exact ⟨h1, h2, ⟨hob.2, h3⟩, by rw [h4, List.length_cons]; omega⟩

theorem awp_textO (htb : TabOK P tb) (hmz : ∀ t i, tb t = some i → men noK i.zero = true) (hsp : SpOK P sp) (ch : Nat → Bool) {id m : Nat} {ops : List Oper} {env : List (Nat × AV)} {l : List (Nat × Option Blk)} {ms : List Nat} {Q : Exit → St → Prop} (hN : dstOK N ops = true) (hκ : Nat.ble κ m = true)
    (h : ∀ m' e' l' ob, evOut tb sp ch m ops ops 0 ⟨m, env, l, True⟩ = ⟨m', e', l', ob⟩ → ob ∧ Q .normal (CS.st ⟨m', e', l', ms⟩)) : awp P ro N κ (.region id ops.toArray false) (CS.st ⟨m, env, l, ms⟩) Q := by
  refine awp_text (s := ⟨m, env, l, ms⟩) htb hmz hsp ch hN hκ ?_
  rintro q rfl
  obtain ⟨ho, hq⟩ := h _ _ _ _ rfl
  obtain ⟨h1, h2, h3, h4⟩ := evOut_eq ch m ops ops 0 m env l True ho
  rw [h1, h2, h4] at hq
  exact ⟨h3, hq⟩

theorem awp_drawO (hmo : P.follows .mixedOrders = true) (htb : TabOK P tb) (hmz : ∀ t i, tb t = some i → men noK i.zero = true) (hsp : SpOK P sp) (ch : Nat → Bool) {id m : Nat} {ops : List Oper} {env : List (Nat × AV)} {l : List (Nat × Option Blk)} {ms : List Nat} {Q : Exit → St → Prop} (hN : dstOK N ops = true) (hκ : Nat.ble κ m = true)
    (hd : drawOK ops (evOps tb sp ch m ops ops 0 env l).its = true)
    (h : ∀ m' e' l' ob, evOut tb sp ch m ops ops 0 ⟨m, env, l, True⟩ = ⟨m', e', l', ob⟩ → ob ∧ Q .normal (CS.st ⟨m', e', l', ms⟩)) : awp P ro N κ (.region id ops.toArray true) (CS.st ⟨m, env, l, ms⟩) Q := by
  refine awp_draw (s := ⟨m, env, l, ms⟩) hmo htb hmz hsp ch hN hκ hd ?_
  rintro q rfl
  obtain ⟨ho, hq⟩ := h _ _ _ _ rfl
  obtain ⟨h1, h2, h3, h4⟩ := evOut_eq ch m ops ops 0 m env l True ho
  rw [h1, h2, h4] at hq
  exact ⟨h3, hq⟩

/-! ### Following the exits -/
variable {σ : St} {Q : Exit → St → Prop} {f : St → Prop}
theorem next_then (h : f σ) : thenQ f Q .normal σ := h
theorem exit_then {i : Nat} (h : Q (.exit i) σ) : thenQ f Q (.exit i) σ := h
theorem ret_then (h : Q .ret σ) : thenQ f Q .ret σ := h
theorem next_block {i : Nat} (h : Q .normal σ) : blockQ i Q .normal σ := h
theorem ret_block {i : Nat} (h : Q .ret σ) : blockQ i Q .ret σ := h
theorem exit_here {i : Nat} (h : Q .normal σ) : blockQ i Q (.exit i) σ := by show (if i = i then _ else _); rw [if_pos rfl]; exact h
theorem exit_past {i j : Nat} (hn : Nat.beq j i = false) (h : Q (.exit j) σ) : blockQ i Q (.exit j) σ := by
  show (if j = i then _ else _)
  rw [if_neg (by rintro rfl; rw [Nat.beq_refl] at hn; cases hn)]; exact h

theorem awp_condO {c : Operand} {x y : Code} {b : Bool} {s : CS} (hc : opv (lke s.env) c = .bool b) (ht : b = true → awp P ro N κ x s.st Q) (hf : b = false → awp P ro N κ y s.st Q) : awp P ro N κ (.cond c x y) s.st Q :=
  awp_cond (σ := s.st) hc ht hf

/-! ### Weaker states -/
def rhoL : List (Nat × Nat) → Nat → Nat
  | [], k => k
  | (a, b) :: t, k => match Nat.beq k a with | true => b | false => rhoL t k
def menE (m : Nat) : List (Nat × AV) → Bool
  | [] => true
  | (_, v) :: t => men (ltK m) v && menE m t
def keysOf : List (Nat × Option Blk) → List Nat
  | [] => []
  | (k, some _) :: t => k :: keysOf t
  | (_, none) :: t => keysOf t
def injOn (f : Nat → Nat) : List Nat → Bool
  | [] => true
  | k :: t => (t.all fun j => !(Nat.beq (f k) (f j))) && injOn f t
def eqL : List Nat → List Nat → Bool
  | [], [] => true
  | a :: s, b :: t => Nat.beq a b && eqL s t
  | _, _ => false
def chkLe (κ : Nat) (σ : CS) (ρ : List (Nat × Nat)) (σ' : CS) : Bool :=
  menE σ'.m σ'.env && ((keysOf σ'.rs).all fun k => Nat.blt k σ'.m) && injOn (rhoL ρ) (keysOf σ'.rs) && eqL (σ'.ms.map (rhoL ρ)) σ.ms && (σ'.ms.all fun k => Nat.blt k σ'.m) && (ρ.all fun p => Nat.ble κ p.1 || Nat.beq p.1 p.2)
def leE (ρ : List (Nat × Nat)) (e : List (Nat × AV)) : List (Nat × AV) → Prop
  | [] => True
  | (s, v) :: t => ren (rhoL ρ) v = lke e s ∧ leE ρ e t
def leR (m : Nat) (ρ : List (Nat × Nat)) (l : List (Nat × Option Blk)) : List (Nat × Option Blk) → Prop
  | [] => True
  | (k, some b) :: t => (menB (ltK m) b ∧ lkr l (rhoL ρ k) = some (renB (rhoL ρ) b)) ∧ leR m ρ l t
  | (_, none) :: t => leR m ρ l t

theorem eqL_eq : ∀ {a b : List Nat}, eqL a b = true → a = b
  | [], [], _ => rfl
  | a :: s, b :: t, h => by
    simp only [eqL, Bool.and_eq_true] at h
    rw [Nat.eq_of_beq_eq_true h.1, eqL_eq h.2]
  | [], _ :: _, h => by cases h
  | _ :: _, [], h => by cases h

theorem le_of {σ σ' : CS} (ρ : List (Nat × Nat)) (hc : chkLe κ σ ρ σ' = true) (he : leE ρ σ.env σ'.env) (hr : leR σ'.m ρ σ.rs σ'.rs) : Le κ σ.st (rhoL ρ) σ'.st := by
  simp only [chkLe, Bool.and_eq_true] at hc
  obtain ⟨⟨⟨⟨⟨c1, c2⟩, c3⟩, c4⟩, c5⟩, c6⟩ := hc
  have hmemR : ∀ (l' : List (Nat × Option Blk)) (k : Nat) (b : Blk), lkr l' k = some b → (k, some b) ∈ l' := by
    intro l'
    induction l' with
    | nil => intro k b h; cases h
    | cons p t ih =>
      intro k b h
      obtain ⟨k', b'⟩ := p
      by_cases hk : k = k'
      · subst hk
        simp only [lkr, lko, Nat.beq_refl] at h
        rw [h]; exact List.mem_cons_self
      · have : lkr t k = some b := by simpa only [lkr, lko, beqN hk] using h
        exact List.mem_cons_of_mem _ (ih k b this)
  have hkeys : ∀ (l' : List (Nat × Option Blk)) (k : Nat) (b : Blk), (k, some b) ∈ l' → k ∈ keysOf l' := by
    intro l'
    induction l' with
    | nil => intro k b h; cases h
    | cons p t ih =>
      intro k b h
      obtain ⟨k', b'⟩ := p
      rcases List.mem_cons.1 h with h | h
      · cases h; exact List.mem_cons_self
      · have := ih k b h
        cases b' with
        | none => exact this
        | some _ => exact List.mem_cons_of_mem _ this
  refine ⟨fun s => ?_, fun k b hk => ?_, fun k k' b b' hk hk' e => ?_, ?_, fun k hk => ?_, fun k hk => ?_⟩
  · show lke σ'.env s = .any ∨ (men (ltK σ'.m) (lke σ'.env s) = true ∧ ren (rhoL ρ) (lke σ'.env s) = lke σ.env s)
    clear c2 c3 c4 c5 c6 hr
    generalize σ'.env = E at c1 he ⊢
    induction E with
    | nil => exact .inl rfl
    | cons p t ih =>
      obtain ⟨s', v⟩ := p
      simp only [menE, Bool.and_eq_true] at c1
      by_cases hs : s = s'
      · subst hs
        simp only [lke, Nat.beq_refl]
        exact .inr ⟨c1.1, he.1⟩
      · simp only [lke, beqN hs]
        exact ih c1.2 he.2
  · have hm := hmemR _ _ _ hk
    have hkm := hkeys _ _ _ hm
    have hlt : ltK σ'.m k = true := by
      simp only [List.all_eq_true] at c2
      exact c2 k hkm
    refine ⟨hlt, ?_⟩
    have : ∀ (l' : List (Nat × Option Blk)), leR σ'.m ρ σ.rs l' → (k, some b) ∈ l' → menB (ltK σ'.m) b ∧ lkr σ.rs (rhoL ρ k) = some (renB (rhoL ρ) b) := by
      intro l'
      induction l' with
      | nil => intro _ h; cases h
      | cons p t ih =>
        intro h1 h2
        obtain ⟨k', b'⟩ := p
        rcases List.mem_cons.1 h2 with h3 | h3
        · cases h3; exact h1.1
        · cases b' with
          | none => exact ih h1 h3
          | some _ => exact ih h1.2 h3
    exact this _ hr hm
  · have h1 := hkeys _ _ _ (hmemR _ _ _ hk)
    have h2 := hkeys _ _ _ (hmemR _ _ _ hk')
    clear c1 c2 c4 c5 c6 hr he hk hk'
    generalize keysOf σ'.rs = L at *
    induction L with
    | nil => cases h1
    | cons a t ih =>
      simp only [injOn, Bool.and_eq_true, List.all_eq_true, Bool.not_eq_true'] at c3
      rcases List.mem_cons.1 h1 with g1 | g1
      · rcases List.mem_cons.1 h2 with g2 | g2
        · rw [g1, g2]
        · have := c3.1 k' g2
          rw [← g1, e, Nat.beq_refl] at this; cases this
      · rcases List.mem_cons.1 h2 with g2 | g2
        · have := c3.1 k g1
          rw [← g2, e, Nat.beq_refl] at this; cases this
        · exact ih c3.2 g1 g2
  · exact eqL_eq c4
  · simp only [List.all_eq_true] at c5
    exact c5 k hk
  · clear c1 c2 c3 c4 c5 hr he
    induction ρ with
    | nil => rfl
    | cons p t ih =>
      obtain ⟨a, b⟩ := p
      simp only [List.all_cons, Bool.and_eq_true, Bool.or_eq_true] at c6
      by_cases hk2 : k = a
      · subst hk2
        simp only [rhoL, Nat.beq_refl]
        rcases c6.1 with h | h
        · have := Nat.le_of_ble_eq_true h; omega
        · exact (Nat.eq_of_beq_eq_true h).symm
      · simp only [rhoL, beqN hk2]
        exact ih c6.2

structure LeC (κ : Nat) (σ : CS) (ρ : List (Nat × Nat)) (σ' : CS) : Prop where
  chk : chkLe κ σ ρ σ' = true
  env : leE ρ σ.env σ'.env
  rs : leR σ'.m ρ σ.rs σ'.rs

theorem awp_leC {c : Code} {σ : CS} (σ' : CS) (ρ : List (Nat × Nat)) (hle : LeC κ σ ρ σ') (h : awp P ro N κ c σ'.st Q) : awp P ro N κ c σ.st Q := awp_le (le_of ρ hle.chk hle.env hle.rs) h

/-- The end of a round. -/
def backQ (κ : Nat) {τ : Type} (I : τ → Prop) (S : τ → CS) (μ : τ → Nat) (t : τ) (s : St) : Prop := ∃ (cs : CS) (t' : τ) (ρ : List (Nat × Nat)), s = cs.st ∧ LeC κ cs ρ (S t') ∧ I t' ∧ μ t' < μ t

theorem back {κ : Nat} {τ : Type} {I : τ → Prop} {S : τ → CS} {μ : τ → Nat} {t : τ} {cs : CS} (t' : τ) (ρ : List (Nat × Nat)) (hle : LeC κ cs ρ (S t')) (hi : I t') (hm : μ t' < μ t) : backQ κ I S μ t cs.st := ⟨cs, t', ρ, rfl, hle, hi, hm⟩

theorem awp_loopC {c : Code} {σ : CS} {τ : Type} (I : τ → Prop) (S : τ → CS) (μ : τ → Nat) (t0 : τ) (ρ0 : List (Nat × Nat)) (hle : LeC κ σ ρ0 (S t0)) (h0 : I t0)
    (round : ∀ t, I t → awp P ro N κ c (S t).st (thenQ (backQ κ I S μ t) Q)) : awp P ro N κ (.loop c) σ.st Q := by
  refine awp_loop I (fun t => (S t).st) μ t0 (rhoL ρ0) (le_of ρ0 hle.chk hle.env hle.rs) h0 fun t ht => awp_mono (round t ht) ?_
  intro e s h
  cases e with
  | normal =>
    obtain ⟨cs, t', ρ, rfl, hl, hi, hm⟩ := h
    exact ⟨t', rhoL ρ, le_of ρ hl.chk hl.env hl.rs, hi, hm⟩
  | _ => exact h

/-! ### What is no longer written -/
def fzA (k : Nat) (u : AV) : AV → AV
  | .own j => match Nat.beq j k with | true => u | false => .own j
  | .agg l => .agg (fzA k u l)
  | .tup l => .tup (fzA k u l)
  | .cons h t => .cons (fzA k u h) (fzA k u t)
  | .fn f c => .fn f (fzA k u c)
  | .whn g v => .whn g (fzA k u v)
  | x => x
def fzE (k : Nat) (u : AV) : List (Nat × AV) → List (Nat × AV)
  | [] => []
  | (s, v) :: t => (s, fzA k u v) :: fzE k u t
def fzB (k : Nat) (u : AV) : Blk → Blk
  | .box v => .box (fzA k u v)
  | b => b
def fzR (k : Nat) (u : AV) : List (Nat × Option Blk) → List (Nat × Option Blk)
  | [] => []
  | (j, b) :: t => match Nat.beq j k with
    | true => fzR k u t
    | false => (j, match b with | some b => some (fzB k u b) | none => none) :: fzR k u t
/-- How a resource reads when nobody writes it. -/
def fzV : Blk → Option AV
  | .ints xs => some (.roI xs)
  | .bools xs => some (.roB xs)
  | .rowsR xs => some (.roII xs)
  | .rows xs => some (.roII xs)
  | .box u => if men noK u then some (.rop u) else none
  | _ => none
def fzOK (k : Nat) : List (Nat × Option Blk) → Bool
  | [] => true
  | (j, b) :: t => (match b with | some (.avs _ _ _) => false | some (.rowsH _ _ k') => !(Nat.beq k' k) | _ => true) && fzOK k t

theorem nbeq (a b : Nat) : Nat.beq a b = decide (a = b) := by
  by_cases h : a = b
  · subst h; simp [Nat.beq_refl]
  · rw [beqN h]; simp [h]
theorem nble (a b : Nat) : Nat.ble a b = decide (a ≤ b) := by
  cases h : Nat.ble a b with
  | true => simp [Nat.le_of_ble_eq_true h]
  | false => simp only [Bool.false_eq, decide_eq_false_iff_not]; intro hle; have h2 := (Nat.ble_eq (x := a) (y := b)).symm ▸ hle; rw [h2] at h; cases h
theorem nblt (a b : Nat) : Nat.blt a b = decide (a < b) := nble (a + 1) b
theorem lkr_nil {k : Nat} : lkr [] k = none := rfl
theorem lkr_cons {j k : Nat} {b : Option Blk} {t : List (Nat × Option Blk)} : lkr ((j, b) :: t) k = if k = j then b else lkr t k := by
  by_cases h : k = j
  · subst h; simp [lkr, lko, Nat.beq_refl]
  · simp only [lkr, lko, beqN h, if_neg h]
theorem lke_cons {j s : Nat} {v : AV} {t : List (Nat × AV)} : lke ((j, v) :: t) s = if s = j then v else lke t s := by
  by_cases h : s = j
  · subst h; simp [lke, Nat.beq_refl]
  · simp only [lke, beqN h, if_neg h]
theorem lke_nil {s : Nat} : lke [] s = .any := rfl

end

end Go.Proofs.Ytgminhedbeblpaa.Cal
