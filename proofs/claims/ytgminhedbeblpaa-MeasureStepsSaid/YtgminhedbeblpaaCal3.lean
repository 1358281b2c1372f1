/- Regions: a list of operations as a list of items (what each reads, writes, makes); in the text's order; in whatever order the edges allow, where a check finds that those left open do not meet. -/
import Derived.Test.YtgminhedbeblpaaCal2
import Derived.OrdersIn
set_option linter.unusedVariables false
set_option linter.unusedSimpArgs false
namespace Go.Proofs.Ytgminhedbeblpaa.Cal
open Go

def put (e : Env) (d : Nat) (v : AV) : Env := fun s => match Nat.beq s d with | true => v | false => e s
def putO (e : Env) (d : Option Nat) (v : AV) : Env := match d with | some d => put e d v | none => e
def lko (l : List (Nat × Option Blk)) (k : Nat) : Option (Option Blk) :=
  match l with
  | [] => none
  | (k', b) :: t => match Nat.beq k k' with | true => some b | false => lko t k
def updL (rs : Rs) (wr : List (Nat × Option Blk)) : Rs := fun k => match lko wr k with | some b => b | none => rs k
def addK (μ : Nat → Bool) (kn : Option Nat) : Nat → Bool := match kn with | some k => fun x => μ x || Nat.beq x k | none => μ

structure Item where
  dst : Option Nat
  ins : List (Nat × AV)
  val : AV
  rd : List (Nat × Blk)
  wr : List (Nat × Option Blk)
  kn : Option Nat

structure Fits (N : Nat) (it : Item) (σ : St) : Prop where
  ins : ∀ p, p ∈ it.ins → σ.env p.1 = p.2
  rd : ∀ p, p ∈ it.rd → σ.rs p.1 = some p.2
  kn : ∀ k, it.kn = some k → σ.mu k = false
  dst : ∀ d, it.dst = some d → d < N

def Item.app (it : Item) (σ : St) : St := { mu := addK σ.mu it.kn, env := putO σ.env it.dst it.val, rs := updL σ.rs it.wr, ms := σ.ms }

def runsTo (N : Nat) (its : Nat → Item) : List Nat → St → St → Prop
  | [], s, s' => s = s'
  | i :: L, s, s' => Fits N (its i) s ∧ runsTo N its L ((its i).app s) s'

/-- An operation does what its item says, from whatever state the item fits. -/
def OpRun (P : Program) (ro : Option Nat) (N : Nat) (ops : Array Oper) (o : Oper) (it : Item) : Prop :=
  ∀ n K Z ν w a σ, Good K Z N w ν σ a → Fits N it σ → ∀ (next : Act → World → Prop) (Q : Exit → Act → World → Prop),
    (∀ Z' ν' w' a', Step K Z w Z' w' → (∀ k, σ.mu k = true → ν' k = ν k) → Good (un K Z') Z' N w' ν' (it.app σ) a' → next a' w') →
    (if Region.wanted o (yielded ops a.tmps) then o.wpIn (FF ro) n P a w next Q else (∀ f, o.about P w a.eval = some f → (FF ro).fn f) ∧ next (a.put o.dst undef) w)

section
variable {P : Program} {ro : Option Nat} {N κ : Nat} {ops : Array Oper} {its : Nat → Item}

/-- κ keys are among those in use. -/
def Holds (κ : Nat) (σ : St) : Prop := ∀ k, k < κ → σ.mu k = true

theorem holds_app {it : Item} {σ : St} (h : Holds κ σ) : Holds κ (it.app σ) := by
  intro k hk
  show addK σ.mu it.kn k = true
  cases it.kn with
  | none => exact h k hk
  | some j => simp [addK, h k hk]

theorem run_text {Q : Exit → St → Prop} {σ' : St} (hq : Q .normal σ') : ∀ (L : List Nat) (σ : St), (∀ i, i ∈ L → ∃ o, ops[i]? = some o ∧ OpRun P ro N ops o (its i)) → Holds κ σ → runsTo N its L σ σ' →
    ∀ n K Z ν w a, Good K Z N w ν σ a → wpOpsIn (FF ro) n P ops (Post N κ K Z w ν Q) L a w := by
  intro L
  induction L with
  | nil =>
    intro σ _ _ hr n K Z ν w a hg
    obtain rfl : σ = σ' := hr
    exact post_now hg hq
  | cons i L ih =>
    intro σ hop hh hr n K Z ν w a hg
    obtain ⟨o, ho, hrun⟩ := hop i (List.mem_cons_self)
    obtain ⟨hf, hr⟩ := hr
    rw [wpOpsIn_cons]
    unfold wpOpIn
    simp only [ho]
    refine hrun n K Z ν w a σ hg hf _ _ ?_
    intro Z1 ν1 w1 a1 hs hν hg1
    have := ih ((its i).app σ) (fun j hj => hop j (List.mem_cons_of_mem _ hj)) (holds_app hh) hr n _ _ ν1 w1 a1 hg1
    exact wpOpsIn_mono' this fun e a' w' hp => hp.trans hs (fun k hk => hν k (hh k hk))
where
  wpOpsIn_mono' {F : Fence} {n : Nat} {P : Program} {ops : Array Oper} {Q Q' : Exit → Act → World → Prop} {L : List Nat} {a : Act} {w : World} (h : wpOpsIn F n P ops Q L a w) (hq : ∀ e a w, Q e a w → Q' e a w) : wpOpsIn F n P ops Q' L a w := by
    induction L generalizing a w with
    | nil => exact hq _ _ _ h
    | cons i L ih =>
      rw [wpOpsIn_cons] at h ⊢
      unfold wpOpIn at h ⊢
      cases ho : ops[i]? with
      | none => simp only [ho] at h ⊢; exact ih h
      | some o =>
        simp only [ho] at h ⊢
        split
        · rename_i hw
          simp only [hw, if_true] at h
          refine ⟨h.1, ?_⟩
          have h2 := h.2
          generalize (o.semAt F.round a.eval).run P w = r at *
          cases r with
          | ok x w' =>
            cases x <;> simp only [Oper.uponIn] at h2 ⊢ <;>
              first
                | exact ih h2
                | exact ⟨h2.1, CallsIn.mono h2.2 (fun e w'' he => by cases e <;> first | exact ih he | exact hq _ _ _ he | (obtain ⟨a0, w0, hl⟩ := he; exact ⟨a0, w0, hq _ _ _ hl⟩))⟩
                | exact ⟨h2.1, RowsIn.mono h2.2 (fun _ _ he => ih he)⟩
                | exact ⟨h2.1, RoundIn.mono h2.2 (fun e w'' he => by cases e <;> first | exact ih he | exact hq _ _ _ he | (obtain ⟨a0, w0, hl⟩ := he; exact ⟨a0, w0, hq _ _ _ hl⟩))⟩
          | halt x w' => cases x <;> simp only [Oper.uponIn] at h2 ⊢ <;> first | exact hq _ _ _ h2 | exact h2
        · rename_i hw
          rw [if_neg hw] at h
          exact ⟨h.1, ih h.2⟩

/-! ### Orders -/

structure Apart (a b : Item) : Prop where
  d : ∀ d d', a.dst = some d → b.dst = some d' → d ≠ d'
  da : ∀ d, a.dst = some d → ∀ p, p ∈ b.ins → p.1 ≠ d
  db : ∀ d, b.dst = some d → ∀ p, p ∈ a.ins → p.1 ≠ d
  wa : ∀ p, p ∈ a.wr → (∀ q, q ∈ b.rd → q.1 ≠ p.1) ∧ (∀ q, q ∈ b.wr → q.1 ≠ p.1)
  wb : ∀ p, p ∈ b.wr → ∀ q, q ∈ a.rd → q.1 ≠ p.1
  kn : ∀ k k', a.kn = some k → b.kn = some k' → k ≠ k'

theorem lko_none {l : List (Nat × Option Blk)} {k : Nat} (h : ∀ p, p ∈ l → p.1 ≠ k) : lko l k = none := by
  induction l with
  | nil => rfl
  | cons p t ih =>
    obtain ⟨k', b⟩ := p
    have hne : Nat.beq k k' = false := by
      have := h (k', b) List.mem_cons_self
      cases hb : Nat.beq k k' with
      | false => rfl
      | true => exact absurd (Nat.eq_of_beq_eq_true hb).symm this
    simp only [lko, hne]
    exact ih fun p hp => h p (List.mem_cons_of_mem _ hp)

theorem put_ne {e : Env} {d s : Nat} {v : AV} (h : s ≠ d) : put e d v s = e s := by
  have hne : Nat.beq s d = false := by
    cases hb : Nat.beq s d with
    | false => rfl
    | true => exact absurd (Nat.eq_of_beq_eq_true hb) h
  simp [put, hne]
theorem put_eq {e : Env} {d : Nat} {v : AV} : put e d v d = v := by simp [put, Nat.beq_refl]
theorem putO_ne {e : Env} {d : Option Nat} {s : Nat} {v : AV} (h : ∀ x, d = some x → s ≠ x) : putO e d v s = e s := by
  cases d with
  | none => rfl
  | some d => exact put_ne (h d rfl)

theorem put_comm {e : Env} {d d' : Nat} {v v' : AV} (h : d ≠ d') : put (put e d v) d' v' = put (put e d' v') d v := by
  funext s
  by_cases h1 : s = d'
  · subst h1; rw [put_eq, put_ne (Ne.symm h), put_eq]
  · rw [put_ne h1]
    by_cases h2 : s = d
    · subst h2; rw [put_eq, put_eq]
    · rw [put_ne h2, put_ne h2, put_ne h1]

theorem updL_comm {rs : Rs} {a b : List (Nat × Option Blk)} (h : ∀ p, p ∈ a → ∀ q, q ∈ b → q.1 ≠ p.1) : updL (updL rs a) b = updL (updL rs b) a := by
  funext k
  simp only [updL]
  cases ha : lko a k with
  | none => cases hb : lko b k <;> rfl
  | some x =>
    have : lko b k = none := by
      have hmem : ∃ p, p ∈ a ∧ p.1 = k := by
        induction a with
        | nil => cases ha
        | cons p t ih =>
          obtain ⟨k', y⟩ := p
          by_cases hk : k' = k
          · exact ⟨_, List.mem_cons_self, hk⟩
          · have hne : Nat.beq k k' = false := by
              cases hb : Nat.beq k k' with
              | false => rfl
              | true => exact absurd (Nat.eq_of_beq_eq_true hb).symm hk
            simp only [lko, hne] at ha
            obtain ⟨p, hp, e⟩ := ih (fun p hp => h p (List.mem_cons_of_mem _ hp)) ha
            exact ⟨p, List.mem_cons_of_mem _ hp, e⟩
      obtain ⟨p, hp, e⟩ := hmem
      exact lko_none fun q hq => e ▸ h p hp q hq
    simp [this]

theorem addK_comm {μ : Nat → Bool} {a b : Option Nat} : addK (addK μ a) b = addK (addK μ b) a := by
  cases a with
  | none => cases b <;> rfl
  | some x => cases b with
    | none => rfl
    | some y => funext k; show (μ k || Nat.beq k x || Nat.beq k y) = (μ k || Nat.beq k y || Nat.beq k x); cases μ k <;> cases Nat.beq k x <;> cases Nat.beq k y <;> rfl

theorem swap_items {a b : Item} {σ : St} (hi : Apart a b) (fa : Fits N a σ) (fb : Fits N b (a.app σ)) : Fits N b σ ∧ Fits N a (b.app σ) ∧ b.app (a.app σ) = a.app (b.app σ) := by
  refine ⟨⟨fun p hp => ?_, fun p hp => ?_, fun k hk => ?_, fb.dst⟩, ⟨fun p hp => ?_, fun p hp => ?_, fun k hk => ?_, fa.dst⟩, ?_⟩
  · rw [← fb.ins p hp]; exact (putO_ne fun x hx => hi.da x hx p hp).symm
  · have := fb.rd p hp
    rwa [show (a.app σ).rs p.1 = σ.rs p.1 from by
      show updL σ.rs a.wr p.1 = _
      simp only [updL]
      rw [lko_none fun q hq => Ne.symm ((hi.wa q hq).1 p hp)]] at this
  · have := fb.kn k hk
    have h : addK σ.mu a.kn k = false := this
    cases hka : a.kn with
    | none => rw [hka] at h; exact h
    | some j => rw [hka] at h; simp [addK] at h; exact h.1
  · rw [← fa.ins p hp]; exact putO_ne fun x hx => hi.db x hx p hp
  · rw [← fa.rd p hp]
    show updL σ.rs b.wr p.1 = _
    simp only [updL]
    rw [lko_none fun q hq => Ne.symm (hi.wb q hq p hp)]
  · have h1 := fa.kn k hk
    show addK σ.mu b.kn k = false
    cases hkb : b.kn with
    | none => exact h1
    | some j =>
      have hne : Nat.beq k j = false := by
        cases hb : Nat.beq k j with
        | false => rfl
        | true => exact absurd (Nat.eq_of_beq_eq_true hb) (hi.kn k j hk hkb)
      simp [addK, h1, hne]
  · show St.mk _ _ _ _ = St.mk _ _ _ _
    have e1 : addK (addK σ.mu a.kn) b.kn = addK (addK σ.mu b.kn) a.kn := addK_comm
    have e2 : putO (putO σ.env a.dst a.val) b.dst b.val = putO (putO σ.env b.dst b.val) a.dst a.val := by
      cases had : a.dst with
      | none => rfl
      | some d => cases hbd : b.dst with
        | none => rfl
        | some d' => exact put_comm (hi.d d d' had hbd)
    have e3 : updL (updL σ.rs a.wr) b.wr = updL (updL σ.rs b.wr) a.wr := updL_comm fun p hp q hq => (hi.wa p hp).2 q hq
    simp only [Item.app, e1, e2, e3]

theorem pull_front {i : Nat} {B : List Nat} : ∀ (A : List Nat) (σ σ' : St), (∀ j, j ∈ A → Apart (its j) (its i)) → runsTo N its (A ++ i :: B) σ σ' → Fits N (its i) σ ∧ runsTo N its (A ++ B) ((its i).app σ) σ' := by
  intro A
  induction A with
  | nil => intro σ σ' _ h; exact h
  | cons j A ih =>
    intro σ σ' hi h
    obtain ⟨fj, h⟩ := h
    obtain ⟨f1, h1⟩ := ih _ _ (fun x hx => hi x (List.mem_cons_of_mem _ hx)) h
    obtain ⟨g1, g2, g3⟩ := swap_items (hi j List.mem_cons_self) fj f1
    exact ⟨g1, g2, by rw [← g3]; exact h1⟩

/-- Which operations come ahead of each, by the edges. -/
def predsOf (o : Oper) : List Nat := (o.after.toList.filter fun e => Region.binds .any e).map (·.on)
def ddL : List Nat → List Nat
  | [] => []
  | a :: t => bif (ddL t).any (fun b => Nat.beq a b) then ddL t else a :: ddL t
def ancs : List Oper → List (List Nat) → List (List Nat)
  | [], acc => acc
  | o :: t, acc => ancs t (acc ++ [ddL (predsOf o ++ (predsOf o).flatMap fun p => acc.getD p [])])

def disj (a b : List Nat) : Bool := a.all fun x => b.all fun y => !(Nat.beq x y)
def apartB (a b : Item) : Bool :=
  disj a.dst.toList b.dst.toList && disj a.dst.toList (b.ins.map (·.1)) && disj b.dst.toList (a.ins.map (·.1)) &&
  disj (a.wr.map (·.1)) (b.rd.map (·.1)) && disj (a.wr.map (·.1)) (b.wr.map (·.1)) && disj (b.wr.map (·.1)) (a.rd.map (·.1)) && disj a.kn.toList b.kn.toList

theorem disj_ne {a b : List Nat} (h : disj a b = true) {x y : Nat} (hx : x ∈ a) (hy : y ∈ b) : x ≠ y := by
  simp only [disj, List.all_eq_true] at h
  have := h x hx y hy
  intro e
  subst e
  simp [Nat.beq_refl] at this

theorem apart_of {a b : Item} (h : apartB a b = true) : Apart a b := by
  simp only [apartB, Bool.and_eq_true] at h
  obtain ⟨⟨⟨⟨⟨⟨h1, h2⟩, h3⟩, h4⟩, h5⟩, h6⟩, h7⟩ := h
  refine ⟨fun d d' hd hd' => disj_ne h1 (by simp [hd]) (by simp [hd']), fun d hd p hp => Ne.symm (disj_ne h2 (by simp [hd]) (List.mem_map_of_mem hp)), fun d hd p hp => Ne.symm (disj_ne h3 (by simp [hd]) (List.mem_map_of_mem hp)),
    fun p hp => ⟨fun q hq => Ne.symm (disj_ne h4 (List.mem_map_of_mem hp) (List.mem_map_of_mem hq)), fun q hq => Ne.symm (disj_ne h5 (List.mem_map_of_mem hp) (List.mem_map_of_mem hq))⟩,
    fun p hp q hq => Ne.symm (disj_ne h6 (List.mem_map_of_mem hp) (List.mem_map_of_mem hq)), fun k k' hk hk' => disj_ne h7 (by simp [hk]) (by simp [hk'])⟩

def itemAt (l : List Item) (i : Nat) : Item := l.getD i ⟨none, [], .any, [], [], none⟩

/-- The check: every two that no edge orders lie apart. -/
def drawOK (ops : List Oper) (l : List Item) : Bool :=
  let A := ancs ops []
  (List.range ops.length).all fun i =>
    ((A.getD i []).all fun j => match ops[i]? with | some o => (predsOf o).any (fun p => Nat.beq p j || ((A.getD p []).any fun q => Nat.beq q j)) && Nat.blt j i | none => false) &&
    (match ops[i]? with | some o => (predsOf o).all fun p => Nat.blt p i | none => false) &&
    (List.range i).all fun j => ((A.getD i []).any fun q => Nat.beq q j) || apartB (itemAt l j) (itemAt l i)

theorem run_any {Q : Exit → St → Prop} {σ' : St} (l : List Item) (hc : drawOK ops.toList l = true) (hop : ∀ i, i < ops.size → ∃ o, ops[i]? = some o ∧ OpRun P ro N ops o (itemAt l i)) (hq : Q .normal σ') :
    ∀ (fuel : Nat) (listed : Array Bool) (L : List Nat) (σ : St), listed.size = ops.size → L.length ≤ fuel → (∀ i, i ∈ L ↔ i < ops.size ∧ listed.getD i true = false) → L.Pairwise (· < ·) →
      (∀ i o, ops[i]? = some o → listed.getD i true = true → ∀ p, p ∈ predsOf o → listed.getD p true = true) →
      Holds κ σ → runsTo N (itemAt l) L σ σ' → ∀ n K Z ν w a, Good K Z N w ν σ a → wpAnyIn (FF ro) n P .any ops (Post N κ K Z w ν Q) fuel listed a w := by
  have hchk : ∀ i, i < ops.size → ∀ o, ops[i]? = some o → (∀ j, j ∈ (ancs ops.toList []).getD i [] → (∃ p, p ∈ predsOf o ∧ (p = j ∨ j ∈ (ancs ops.toList []).getD p [])) ∧ j < i) ∧ (∀ p, p ∈ predsOf o → p < i) ∧
      ∀ j, j < i → j ∈ (ancs ops.toList []).getD i [] ∨ Apart (itemAt l j) (itemAt l i) := by
    intro i hi o ho
    simp only [drawOK, List.all_eq_true, List.mem_range, Bool.and_eq_true, Array.length_toList] at hc
    obtain ⟨⟨h1, h2⟩, h3⟩ := hc i hi
    have ho' : ops.toList[i]? = some o := by simpa using ho
    rw [ho'] at h1 h2
    simp only [List.all_eq_true, Nat.blt_eq] at h2
    refine ⟨fun j hj => ?_, h2, fun j hj => ?_⟩
    · have := h1 j hj
      simp only [Bool.and_eq_true, List.any_eq_true, Bool.or_eq_true, Nat.blt_eq] at this
      obtain ⟨⟨p, hp, hpj⟩, hlt⟩ := this
      refine ⟨⟨p, hp, ?_⟩, hlt⟩
      rcases hpj with h | ⟨q, hq, h⟩
      · exact .inl (Nat.eq_of_beq_eq_true h)
      · exact .inr (Nat.eq_of_beq_eq_true h ▸ hq)
    · have := h3 j hj
      simp only [Bool.or_eq_true, List.any_eq_true] at this
      rcases this with ⟨q, hq, h⟩ | h
      · exact .inl (Nat.eq_of_beq_eq_true h ▸ hq)
      · exact .inr (apart_of h)
  have done_closed : ∀ (listed : Array Bool), listed.size = ops.size → (∀ i o, ops[i]? = some o → listed.getD i true = true → ∀ p, p ∈ predsOf o → listed.getD p true = true) →
      ∀ i, i < ops.size → ∀ o, ops[i]? = some o → (∀ p, p ∈ predsOf o → listed.getD p true = true) → ∀ j, j ∈ (ancs ops.toList []).getD i [] → listed.getD j true = true := by
    intro listed hsz hcl i
    induction i using Nat.strongRecOn with
    | _ i ih =>
      intro hi o ho hp j hj
      obtain ⟨⟨p, hpm, hpj⟩, hlt⟩ := (hchk i hi o ho).1 j hj
      rcases hpj with rfl | hpj
      · exact hp p hpm
      · have hpi := (hchk i hi o ho).2.1 p hpm
        have hps : p < ops.size := by omega
        obtain ⟨o', ho', _⟩ := hop p hps
        exact ih p hpi hps o' ho' (hcl p o' ho' (hp p hpm)) j hpj
  have preds_ready : ∀ (listed : Array Bool) i, i ∈ Region.ready .any ops listed → i < ops.size ∧ listed.getD i true = false ∧ ∀ o, ops[i]? = some o → ∀ p, p ∈ predsOf o → listed.getD p true = true := by
    intro listed i hi
    simp only [Region.ready, List.mem_filter, List.mem_range, Bool.and_eq_true, Bool.not_eq_true'] at hi
    obtain ⟨h1, h2, h3⟩ := hi
    refine ⟨h1, h2, fun o ho p hp => ?_⟩
    rw [ho] at h3
    simp only [Option.map_some, Option.getD_some] at h3
    simp only [predsOf, List.mem_map, List.mem_filter] at hp
    obtain ⟨e, ⟨he, hb⟩, rfl⟩ := hp
    have := (Array.all_eq_true_iff_forall_mem.1 h3) e (by simpa using he)
    rw [hb] at this
    simp only [Bool.not_true, Bool.false_or] at this
    cases hg : listed[e.on]? with
    | none => simp [Array.getD_eq_getD_getElem?, hg]
    | some x => simp [Array.getD_eq_getD_getElem?, hg] at this ⊢; exact this
  have ready_of : ∀ (listed : Array Bool) i o, ops[i]? = some o → listed.getD i true = false → (∀ p, p ∈ predsOf o → p < listed.size ∧ listed.getD p true = true) → i ∈ Region.ready .any ops listed := by
    intro listed i o ho hl hp
    have hi : i < ops.size := (Array.getElem?_eq_some_iff.1 ho).1
    simp only [Region.ready, List.mem_filter, List.mem_range, Bool.and_eq_true, Bool.not_eq_true']
    refine ⟨hi, hl, ?_⟩
    rw [ho]
    simp only [Option.map_some, Option.getD_some]
    refine Array.all_eq_true_iff_forall_mem.2 fun e he => ?_
    cases hb : Region.binds .any e with
    | false => rfl
    | true =>
      obtain ⟨h1, h2⟩ := hp e.on (List.mem_map.2 ⟨e, List.mem_filter.2 ⟨by simpa using he, hb⟩, rfl⟩)
      simp [Array.getD_eq_getD_getElem?, Array.getElem?_eq_getElem h1] at h2 ⊢
      exact h2
  have set_get : ∀ (listed : Array Bool) i j, i < listed.size → ((listed.setIfInBounds i true).getD j true = true ↔ (j = i ∨ listed.getD j true = true)) := by
    intro listed i j hi
    simp only [Array.getD_eq_getD_getElem?, Array.getElem?_setIfInBounds]
    by_cases h : i = j
    · subst h; simp [hi]
    · simp [h, Ne.symm h]
  intro fuel
  induction fuel with
  | zero =>
    intro listed L σ hsz hlen hL hpw hcl hh hr n K Z ν w a hg
    obtain rfl : L = [] := List.eq_nil_of_length_eq_zero (by omega)
    obtain rfl : σ = σ' := hr
    refine ⟨?_, post_now hg hq⟩
    refine List.eq_nil_iff_forall_not_mem.2 fun i hi => ?_
    obtain ⟨h1, h2, _⟩ := preds_ready listed i hi
    exact absurd ((hL i).2 ⟨h1, h2⟩) (by simp)
  | succ fuel ih =>
    intro listed L σ hsz hlen hL hpw hcl hh hr n K Z ν w a hg
    refine ⟨fun hnil => ?_, fun i hi => ?_⟩
    · cases L with
      | nil => obtain rfl : σ = σ' := hr; exact post_now hg hq
      | cons i L =>
        exfalso
        obtain ⟨hi, hl⟩ := (hL i).1 List.mem_cons_self
        obtain ⟨o, ho, _⟩ := hop i hi
        have : i ∈ Region.ready .any ops listed := ready_of listed i o ho hl fun p hp => by
          have hpi := (hchk i hi o ho).2.1 p hp
          refine ⟨by omega, ?_⟩
          cases hpl : listed.getD p true with
          | true => rfl
          | false =>
            have hmem := (hL p).2 ⟨by omega, hpl⟩
            rcases List.mem_cons.1 hmem with rfl | hmem
            · omega
            · have := List.rel_of_pairwise_cons hpw hmem; omega
        rw [hnil] at this
        cases this
    · obtain ⟨h1, h2, h3⟩ := preds_ready listed i hi
      obtain ⟨o, ho, hrun⟩ := hop i h1
      have hiL := (hL i).2 ⟨h1, h2⟩
      obtain ⟨A, B, rfl⟩ := List.append_of_mem hiL
      have hA : ∀ j, j ∈ A → j < i := fun j hj => by
        rw [List.pairwise_append] at hpw
        exact hpw.2.2 j hj i List.mem_cons_self
      have hap : ∀ j, j ∈ A → Apart (itemAt l j) (itemAt l i) := by
        intro j hj
        rcases (hchk i h1 o ho).2.2 j (hA j hj) with h | h
        · have hd := done_closed listed hsz hcl i h1 o ho (h3 o ho) j h
          have := ((hL j).1 (List.mem_append_left _ hj)).2
          rw [hd] at this
          cases this
        · exact h
      obtain ⟨f1, r1⟩ := pull_front A σ σ' hap hr
      unfold wpOpIn
      simp only [ho]
      refine hrun n K Z ν w a σ hg f1 _ _ ?_
      intro Z1 ν1 w1 a1 hs hν hg1
      have hi2 : i < listed.size := by omega
      have hnd : i ∉ A ∧ i ∉ B := by
        have hne : (A ++ i :: B).Pairwise (· ≠ ·) := hpw.imp fun h => Nat.ne_of_lt h
        rw [List.pairwise_append] at hne
        exact ⟨fun h => hne.2.2 i h i List.mem_cons_self rfl, fun h => List.rel_of_pairwise_cons hne.2.1 h rfl⟩
      have := ih (listed.setIfInBounds i true) (A ++ B) _ (by simpa using hsz) (by simp at hlen ⊢; omega) (fun j => ?_) ?_ ?_ (holds_app hh) r1 n _ _ ν1 w1 a1 hg1
      · exact wpAnyIn_mono' this fun e a' w' hp => hp.trans hs (fun k hk => hν k (hh k hk))
      · have e : (listed.setIfInBounds i true).getD j true = false ↔ (j ≠ i ∧ listed.getD j true = false) := by
          have := set_get listed i j hi2
          cases h : (listed.setIfInBounds i true).getD j true with
          | true =>
            simp only [h, true_iff] at this
            refine ⟨fun hh => (by cases hh), fun hh => ?_⟩
            rcases this with e | e
            · exact absurd e hh.1
            · rw [e] at hh; exact absurd hh.2 (by simp)
          | false =>
            rw [h] at this
            simp only [Bool.false_eq_true, false_iff, not_or] at this
            exact ⟨fun _ => ⟨this.1, by cases hx : listed.getD j true with | false => rfl | true => exact absurd hx this.2⟩, fun _ => rfl⟩
        rw [e]
        constructor
        · intro hj
          have hj' : j ∈ A ++ i :: B := by
            rcases List.mem_append.1 hj with h | h
            · exact List.mem_append_left _ h
            · exact List.mem_append_right _ (List.mem_cons_of_mem _ h)
          obtain ⟨q1, q2⟩ := (hL j).1 hj'
          refine ⟨q1, ?_, q2⟩
          rintro rfl
          rcases List.mem_append.1 hj with h | h
          · exact hnd.1 h
          · exact hnd.2 h
        · rintro ⟨q1, q2, q3⟩
          have := (hL j).2 ⟨q1, q3⟩
          rcases List.mem_append.1 this with h | h
          · exact List.mem_append_left _ h
          · rcases List.mem_cons.1 h with h | h
            · exact absurd h q2
            · exact List.mem_append_right _ h
      · exact hpw.sublist (List.sublist_append_left A (i :: B) |>.trans (List.Sublist.refl _) |> fun _ => List.Sublist.append (List.Sublist.refl A) (List.sublist_cons_self i B))
      · intro j oj hoj hlj p hp
        rw [set_get listed i p hi2]
        rcases (set_get listed i j hi2).1 hlj with rfl | h
        · exact .inr (h3 oj hoj p hp)
        · exact .inr (hcl j oj hoj h p hp)
where
  wpAnyIn_mono' {F : Fence} {n : Nat} {P : Program} {md : Region.Mode} {ops : Array Oper} {Q Q' : Exit → Act → World → Prop} {fuel : Nat} {listed : Array Bool} {a : Act} {w : World} (h : wpAnyIn F n P md ops Q fuel listed a w) (hq : ∀ e a w, Q e a w → Q' e a w) : wpAnyIn F n P md ops Q' fuel listed a w := by
    induction fuel generalizing listed a w with
    | zero => exact ⟨h.1, hq _ _ _ h.2⟩
    | succ fuel ih =>
      refine ⟨fun hr => hq _ _ _ (h.1 hr), fun i hi => ?_⟩
      have h := h.2 i hi
      unfold wpOpIn at h ⊢
      cases ho : ops[i]? with
      | none => simp only [ho] at h ⊢; exact ih h
      | some o =>
        simp only [ho] at h ⊢
        split
        · rename_i hw
          simp only [hw, if_true] at h
          refine ⟨h.1, ?_⟩
          have h2 := h.2
          generalize (o.semAt F.round a.eval).run P w = r at *
          cases r with
          | ok x w' =>
            cases x <;> simp only [Oper.uponIn] at h2 ⊢ <;>
              first
                | exact ih h2
                | exact ⟨h2.1, CallsIn.mono h2.2 (fun e w'' he => by cases e <;> first | exact ih he | exact hq _ _ _ he | (obtain ⟨a0, w0, hl⟩ := he; exact ⟨a0, w0, hq _ _ _ hl⟩))⟩
                | exact ⟨h2.1, RowsIn.mono h2.2 (fun _ _ he => ih he)⟩
                | exact ⟨h2.1, RoundIn.mono h2.2 (fun e w'' he => by cases e <;> first | exact ih he | exact hq _ _ _ he | (obtain ⟨a0, w0, hl⟩ := he; exact ⟨a0, w0, hq _ _ _ hl⟩))⟩
          | halt x w' => cases x <;> simp only [Oper.uponIn] at h2 ⊢ <;> first | exact hq _ _ _ h2 | exact h2
        · rename_i hw
          rw [if_neg hw] at h
          exact ⟨h.1, ih h.2⟩
end

end Go.Proofs.Ytgminhedbeblpaa.Cal
