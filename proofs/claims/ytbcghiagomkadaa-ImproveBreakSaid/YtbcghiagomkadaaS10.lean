/- Own texts of the proof, merged, in order. -/
import Derived.TacticsIn
import Derived.Test.YtbcghiagomkadaaProg
import Derived.Test.YtbcghiagomkadaaS9
set_option linter.unusedVariables false
set_option linter.unusedSimpArgs false
namespace Go.Proofs.Ytbcghiagomkadaa.Cal
open Go
structure GR where
  m : Nat
  val : AV
  rs : List (Nat × Option Blk)
/-- A function's contract at arguments and resources: what it may answer. -/
def FG (P : Program) (f : Nat) (args : List AV) (rin : List (Nat × Option Blk)) (κ : Nat) (Q : GR → Prop) : Prop :=
  Plain P f ∧ FCall P f κ args (lkr rin) fun v μ rs => ∃ g : GR, Q g ∧ v = g.val ∧ μ = ltK g.m ∧ κ ≤ g.m ∧ rs = lkr g.rs
theorem FG.mono {P : Program} {f κ : Nat} {args : List AV} {rin : List (Nat × Option Blk)} {Q Q' : GR → Prop} (h : FG P f args rin κ Q) (hq : ∀ g, Q g → Q' g) : FG P f args rin κ Q' := by
  refine ⟨h.1, fun K Z ν w vals h1 hr hm hrs hzk hkl => ?_⟩
  have := h.2 K Z ν w vals h1 hr hm hrs hzk hkl
  refine CallsIn.calls (F := FF none) (n := 0) (CallsIn.mono (Zcp this) ?_) (fun k d hd => by cases hd)
  rintro e w' ⟨y, Z', ν', v, μ', rs', e1, e2, e3, e4, e5, e6, e7, e8, e9, g, hg, g1⟩
  exact ⟨y, Z', ν', v, μ', rs', e1, e2, e3, e4, e5, e6, e7, e8, e9, g, hq g hg, g1⟩
/-- The same of a function that may panic. -/
def FP (P : Program) (f : Nat) (args : List AV) (rin : List (Nat × Option Blk)) (κ : Nat) (E : List PanicEntry → Prop) (Q : GR → Prop) : Prop :=
  Plain P f ∧ FCallP P f κ args (lkr rin) E fun v μ rs => ∃ g : GR, Q g ∧ v = g.val ∧ μ = ltK g.m ∧ κ ≤ g.m ∧ rs = lkr g.rs
theorem FG.fp {P : Program} {f κ : Nat} {args : List AV} {rin : List (Nat × Option Blk)} {Q : GR → Prop} {E : List PanicEntry → Prop} (h : FG P f args rin κ Q) : FP P f args rin κ E Q :=
  ⟨h.1, fun K Z ν w vals h1 hr hm hrs hzk hkl => Zgo (h.2 K Z ν w vals h1 hr hm hrs hzk hkl) fun _ _ h => .inl h⟩
theorem FP.fg {P : Program} {f κ : Nat} {args : List AV} {rin : List (Nat × Option Blk)} {Q : GR → Prop} (h : FP P f args rin κ (fun _ => False) Q) : FG P f args rin κ Q :=
  ⟨h.1, fun K Z ν w vals h1 hr hm hrs hzk hkl => Zgo (h.2 K Z ν w vals h1 hr hm hrs hzk hkl) fun _ _ h => h.elim id fun ⟨_, hc, _⟩ => hc.elim⟩
theorem FP.mono {P : Program} {f κ : Nat} {args : List AV} {rin : List (Nat × Option Blk)} {E : List PanicEntry → Prop} {Q Q' : GR → Prop} (h : FP P f args rin κ E Q) (hq : ∀ g, Q g → Q' g) : FP P f args rin κ E Q' :=
  ⟨h.1, fun K Z ν w vals h1 hr hm hrs hzk hkl => Zgo (h.2 K Z ν w vals h1 hr hm hrs hzk hkl) fun _ _ h => h.imp (fun ⟨y, Z', ν', v, μ', rs', e1, e2, e3, e4, e5, e6, e7, e8, e9, g, hg, g1⟩ => ⟨y, Z', ν', v, μ', rs', e1, e2, e3, e4, e5, e6, e7, e8, e9, g, hq g hg, g1⟩) id⟩
/-- A written-out end of a call, under the keys of its contract. -/
structure GRof (κ : Nat) (cs : CS) (v : AV) (g : GR) (ρ : List (Nat × Nat)) : Prop where
  le : κ ≤ g.m
  id : ∀ k, k < κ → rhoL ρ k = k
  mval : men (ltK g.m) g.val = true
  val : Imp v (ren (rhoL ρ) g.val)
  rs : ∀ k B, lkr g.rs k = some B → k < g.m ∧ menB (ltK g.m) B ∧ B ≠ .dfr ∧ lkr cs.rs (rhoL ρ k) = some (renB (rhoL ρ) B)
  inj : ∀ k k' B B', lkr g.rs k = some B → lkr g.rs k' = some B' → rhoL ρ k = rhoL ρ k' → k = k'
theorem renB_dfr {ρ : Nat → Nat} {B : Blk} (h : B ≠ .dfr) : renB ρ B ≠ .dfr := by
  cases B <;> first | (intro h'; cases h'; done) | exact absurd rfl h
section
variable {P : Program} {ro : Option Nat} {N κ : Nat} {tb : Nat → Option TI}
def gQ (κ : Nat) (Q : GR → Prop) (cs : CS) (v : AV) : Prop := ∃ g ρ, Q g ∧ GRof κ cs v g ρ
theorem fp_of (htb : TabOK P tb) {f κ : Nat} {fn : Func} {c : Code} {args : List AV} {rin : List (Nat × Option Blk)} {E : List PanicEntry → Prop} {Q : GR → Prop} (hf : P.funcs[f]? = some fn) (hname : (fn.name == "runtime.NumGoroutine") = false) (hb : fn.body = some c) (hN : args.length ≤ fn.ntmps)
    (h : lenP (mkL args) → awp P none fn.ntmps κ c (CS.st ⟨κ, zipE 0 args, rin, []⟩) (exitQP tb fn κ E (gQ κ Q))) : FP P f args rin κ E Q := by
  refine ⟨⟨fn, hf, hname, by rw [hb]; rfl⟩, ?_⟩
  intro K Z ν w vals h1 hr hm hrs hzk hkl
  have := fcallp_of (κ := κ) (E := E) (rin := rin) (Q := fun v μ rs => ∃ cs : CS, noDfr cs.rs rs ∧ gQ κ Q cs v ∧ μ = ltK cs.m) htb hf hb hN (Zeq (h (R_lenP hr)) ?_) K Z ν w vals h1 hr hm hrs hzk hkl
  · refine CallsIn.calls (F := FF none) (n := 0) (CallsIn.mono (Zcp this) ?_) (fun k d hd => by cases hd)
    rintro e w' (⟨y, Z', ν', v, μ', rs', rfl, hst, h1', hν, hμ, hr', hm', hg, hz, cs, hnd, ⟨g, ρ, hq, G⟩, rfl⟩ | hp)
    case inr => exact .inr hp
    refine .inl ⟨y, Z', fun k => ν' (rhoL ρ k), g.val, ltK g.m, lkr g.rs, rfl, hst, fun k => h1' _, fun k hk => by show ν' (rhoL ρ k) = ν k; rw [G.id k hk]; exact hν k hk, fun k hk => by show Nat.blt k g.m = true; rw [Nat.blt_eq]; have := G.le; omega, R_ren.1 (G.val _ _ _ _ hr'), G.mval, ?_, hz, g, hq, rfl, rfl, G.le, rfl⟩
    obtain ⟨Ft, hF⟩ := hg
    refine ⟨fun k => Ft (rhoL ρ k), fun k B hk => ?_⟩
    obtain ⟨a1, a2, a3, a4⟩ := G.rs k B hk
    have hk2 := hnd _ _ a4 (renB_dfr a3)
    obtain ⟨g1, g2, g3, g4, g5⟩ := hF _ _ hk2
    refine ⟨by show Nat.blt k g.m = true; rw [Nat.blt_eq]; exact a1, a2, sat_ren.1 g3, g4, fun k' B' hne hk' => ?_⟩
    obtain ⟨b1, b2, b3, b4⟩ := G.rs k' B' hk'
    exact g5 _ _ (fun e => hne (G.inj k k' B B' hk hk' e)) (hnd _ _ b4 (renB_dfr b3))
  · intro e s hq
    cases e with
    | normal => obtain ⟨cs, l, e1, e2, e3, e4, e5, e6⟩ := hq; exact ⟨cs, l, e1, e2, e3, e4, e5, fun rs hnd => ⟨cs, hnd, e6, rfl⟩⟩
    | ret => obtain ⟨cs, l, e1, e2, e3, e4, e5, e6⟩ := hq; exact ⟨cs, l, e1, e2, e3, e4, e5, fun rs hnd => ⟨cs, hnd, e6, rfl⟩⟩
    | panic c => exact hq
    | _ => exact hq.elim
theorem Zd1 (htb : TabOK P tb) {f κ : Nat} {fn : Func} {c : Code} {args : List AV} {rin : List (Nat × Option Blk)} {Q : GR → Prop} (hf : P.funcs[f]? = some fn) (hname : (fn.name == "runtime.NumGoroutine") = false) (hb : fn.body = some c) (hN : args.length ≤ fn.ntmps)
    (h : lenP (mkL args) → awp P none fn.ntmps κ c (CS.st ⟨κ, zipE 0 args, rin, []⟩) (exitQ tb fn κ (gQ κ Q))) : FG P f args rin κ Q :=
  FP.fg (fp_of htb hf hname hb hN fun hl => Zeq (h hl) fun e s hq => by cases e <;> first | exact hq | exact hq.elim)
def notD : Blk → Bool
  | .dfr => false
  | _ => true
def grR (ρ : Nat → Nat) (m : Nat) (l : List (Nat × Option Blk)) : List (Nat × Option Blk) → Prop
  | [] => True
  | (k, some B) :: t => (Nat.blt k m = true ∧ notD B = true ∧ menB (ltK m) B ∧ lkr l (ρ k) = some (renB ρ B)) ∧ grR ρ m l t
  | (_, none) :: t => grR ρ m l t
def chkG (κ : Nat) (g : GR) (ρ : List (Nat × Nat)) : Bool := Nat.ble κ g.m && (ρ.all fun p => Nat.ble κ p.1 || Nat.beq p.1 p.2) && men (ltK g.m) g.val && injOn (rhoL ρ) (keysOf g.rs)
theorem Zcr {k : Nat} {B : Blk} : ∀ {l : List (Nat × Option Blk)}, lkr l k = some B → k ∈ keysOf l ∧ (k, some B) ∈ l
  | [], h => by cases h
  | (j, b) :: t, h => by
    unfold lkr at h
    simp only [lko] at h
    cases hb : Nat.beq k j with
    | true =>
      rw [hb] at h
      obtain rfl := Nat.eq_of_beq_eq_true hb
      dsimp only at h
      subst h
      exact ⟨List.mem_cons_self, List.mem_cons_self⟩
    | false =>
      rw [hb] at h
      obtain ⟨h1, h2⟩ := Zcr (l := t) h
      refine ⟨?_, List.mem_cons_of_mem _ h2⟩
      cases b with
      | none => exact h1
      | some _ => exact List.mem_cons_of_mem _ h1
theorem Zg9 {ρ : Nat → Nat} {m : Nat} {l : List (Nat × Option Blk)} {k : Nat} {B : Blk} : ∀ {g : List (Nat × Option Blk)}, grR ρ m l g → (k, some B) ∈ g → Nat.blt k m = true ∧ notD B = true ∧ menB (ltK m) B ∧ lkr l (ρ k) = some (renB ρ B)
  | [], _, h => absurd h List.not_mem_nil
  | (j, none) :: t, hg, h => by
    rcases List.mem_cons.1 h with e | h
    · cases e
    · exact Zg9 (g := t) hg h
  | (j, some B') :: t, hg, h => by
    rcases List.mem_cons.1 h with e | h
    · cases e; exact hg.1
    · exact Zg9 (g := t) hg.2 h
theorem injOn_ok {f : Nat → Nat} : ∀ {l : List Nat} {i j : Nat}, injOn f l = true → i ∈ l → j ∈ l → f i = f j → i = j
  | k :: t, i, j, h, hi, hj, e => by
    simp only [injOn, Bool.and_eq_true, List.all_eq_true, Bool.not_eq_true'] at h
    rcases List.mem_cons.1 hi with hi | hi
    · rcases List.mem_cons.1 hj with hj | hj
      · rw [hi, hj]
      · have := h.1 j hj; rw [← hi, e, Nat.beq_refl] at this; cases this
    · rcases List.mem_cons.1 hj with hj | hj
      · have := h.1 i hi; rw [← hj, e, Nat.beq_refl] at this; cases this
      · exact injOn_ok h.2 hi hj e
/-- The end of a call, against its contract. -/
theorem Zcw {κ : Nat} {Q : GR → Prop} {cs : CS} {v : AV} (g : GR) (ρ : List (Nat × Nat)) (hq : Q g) (hc : chkG κ g ρ = true) (hv : Imp v (ren (rhoL ρ) g.val)) (hr : grR (rhoL ρ) g.m cs.rs g.rs) : gQ κ Q cs v := by
  simp only [chkG, Bool.and_eq_true, Nat.ble_eq] at hc
  obtain ⟨⟨⟨c1, c2⟩, c3⟩, c4⟩ := hc
  refine ⟨g, ρ, hq, c1, fun k hk => ?_, c3, hv, fun k B hB => ?_, fun k k' B B' h1 h2 e => injOn_ok c4 (Zcr h1).1 (Zcr h2).1 e⟩
  · clear hv hr c3 c4
    induction ρ with
    | nil => rfl
    | cons p t ih =>
      obtain ⟨a, b⟩ := p
      simp only [List.all_cons, Bool.and_eq_true, Bool.or_eq_true, Nat.ble_eq] at c2
      simp only [rhoL]
      cases hb : Nat.beq k a with
      | true =>
        obtain rfl := Nat.eq_of_beq_eq_true hb
        rcases c2.1 with h | h
        · omega
        · exact (Nat.eq_of_beq_eq_true h).symm
      | false => exact ih c2.2
  · obtain ⟨h1, h2, h3, h4⟩ := Zg9 hr (Zcr hB).2
    rw [Nat.blt_eq] at h1
    refine ⟨h1, h3, fun e => ?_, h4⟩
    subst e
    cases h2
/-! ### A list of operations -/
def awpL (P : Program) (ro : Option Nat) (N κ : Nat) (l : List Oper) (σ : St) (Q : Exit → St → Prop) : Prop :=
  ∀ n K Z ν w a, Good K Z N w ν σ a → wpListIn (FF ro) n P #[] (Post N κ K Z w ν Q) l a w
def noG : List Oper → Bool
  | [] => true
  | o :: t => o.guard.isNone && noG t
theorem Zb7 {o : Oper} (h : o.guard.isNone = true) (f : Nat → Option Bool) : Region.wanted o f = true := by
  unfold Region.wanted
  cases ho : o.guard with
  | none => rfl
  | some p => rw [ho] at h; cases h
theorem Zd2 {F : Fence} {n : Nat} {ops ops' : Array Oper} {Q : Exit → Act → World → Prop} : ∀ {l : List Oper}, noG l = true → wpListIn F n P ops Q l = wpListIn F n P ops' Q l
  | [], _ => rfl
  | o :: t, h => by
    simp only [noG, Bool.and_eq_true] at h
    funext a w
    have h1 := Zb7 h.1 (yielded ops a.tmps)
    have h2 := Zb7 h.1 (yielded ops' a.tmps)
    simp only [wpListIn, h1, h2, if_true, Zd2 (ops := ops) (ops' := ops') h.2]
theorem awp_list {id : Nat} {l : List Oper} {σ : St} {Q : Exit → St → Prop} (hl : noG l = true) (h : awpL P ro N κ l σ Q) : awp P ro N κ (.region id l.toArray false) σ Q :=
  fun n K Z ν w a hg => wpIn_region_lit (by rw [Zd2 hl]; exact h n K Z ν w a hg)
theorem Zfj {F : Fence} {n : Nat} {o : Oper} {a : Act} {w : World} {N1 N2 : Act → World → Prop} {Q1 Q2 : Exit → Act → World → Prop} (hN : ∀ a w, N1 a w → N2 a w) (hq : ∀ e a w, e ≠ .normal → Q1 e a w → Q2 e a w)
    (h : o.wpIn F n P a w N1 Q1) : o.wpIn F n P a w N2 Q2 := by
  refine ⟨h.1, ?_⟩
  have h2 := h.2
  generalize (o.semAt F.round a.eval).run P w = r at *
  have hl : LetsOut Q1 → LetsOut Q2 := fun ⟨a0, w0, hl⟩ => ⟨a0, w0, hq _ _ _ (by intro h; cases h) hl⟩
  cases r with
  | ok x w' =>
    cases x <;> simp only [Oper.uponIn] at h2 ⊢ <;>
      first
        | exact hN _ _ h2
        | exact ⟨h2.1, CallsIn.mono h2.2 (fun e w'' he => by cases e <;> first | exact hN _ _ he | exact hl he | exact hq _ _ _ (by intro h; cases h) he)⟩
        | exact ⟨h2.1, RowsIn.mono h2.2 (fun _ _ he => hN _ _ he)⟩
        | exact ⟨h2.1, RoundIn.mono h2.2 (fun e w'' he => by cases e <;> first | exact hN _ _ he | exact hl he | exact hq _ _ _ (by intro h; cases h) he)⟩
  | halt e w' =>
    cases e <;> first | exact h2 | exact hq _ _ _ (by intro h; cases h) h2
theorem Zes {F : Fence} {n : Nat} {ops : Array Oper} {Q : Exit → Act → World → Prop} : ∀ {l1 l2 : List Oper} {a : Act} {w : World}, wpListIn F n P ops (Exit.then (wpListIn F n P ops Q l2) Q) l1 a w → wpListIn F n P ops Q (l1 ++ l2) a w
  | [], l2, a, w, h => h
  | o :: t, l2, a, w, h => by
    simp only [List.cons_append, wpListIn] at h ⊢
    split at h
    · rename_i hw
      rw [if_pos hw]
      exact Zfj (fun a' w' h' => Zes h') (fun e a' w' he h' => by cases e <;> first | exact absurd rfl he | exact h') h
    · rename_i hw
      rw [if_neg hw]
      exact ⟨h.1, Zes h.2⟩
theorem Zb6 {F : Fence} {n : Nat} {ops : Array Oper} {Q Q' : Exit → Act → World → Prop} (hq : ∀ e a w, Q e a w → Q' e a w) : ∀ {l : List Oper} {a : Act} {w : World}, wpListIn F n P ops Q l a w → wpListIn F n P ops Q' l a w
  | [], a, w, h => hq _ _ _ h
  | o :: t, a, w, h => by
    simp only [wpListIn] at h ⊢
    split at h
    · rename_i hw
      rw [if_pos hw]
      exact Zfj (fun a' w' h' => Zb6 hq h') (fun e a' w' _ h' => hq e a' w' h') h
    · rename_i hw
      rw [if_neg hw]
      exact ⟨h.1, Zb6 hq h.2⟩
theorem awpL_app {l1 l2 : List Oper} {σ : St} {Q : Exit → St → Prop} (h : awpL P ro N κ l1 σ (thenQ (fun s => awpL P ro N κ l2 s Q) Q)) : awpL P ro N κ (l1 ++ l2) σ Q := by
  intro n K Z ν w a hg
  refine Zes (Zb6 ?_ (h n K Z ν w a hg))
  rintro e a' w' ⟨Z', ν', σ', h1, h2, h3, h4⟩
  cases e with
  | normal =>
    have := h4 n _ _ ν' w' a' h3
    exact Zb6 (fun e a2 w2 hp => hp.trans h1 h2) this
  | _ => exact ⟨Z', ν', σ', h1, h2, h3, h4⟩
theorem awpL_nil {σ : St} {Q : Exit → St → Prop} (h : Q .normal σ) : awpL P ro N κ [] σ Q := fun n K Z ν w a hg => Zcc hg h
theorem Zaz (htb : TabOK P tb) (hmz : ∀ t i, tb t = some i → men noK i.zero = true) {sp : Nat → Option Spec} (hsp : SpOK P sp) (ch : Nat → Bool) {m : Nat} {ops : List Oper} {env : List (Nat × AV)} {l : List (Nat × Option Blk)} {ms : List Nat} {Q : Exit → St → Prop} (hG : noG ops = true) (hN : dstOK N ops = true) (hκ : Nat.ble κ m = true)
    (h : ∀ m' e' l' ob, evOut tb sp ch m ops ops 0 ⟨m, env, l, True⟩ = ⟨m', e', l', ob⟩ → Ob ob ∧ Q .normal (CS.st ⟨m', e', l', ms⟩)) : awpL P ro N κ ops (CS.st ⟨m, env, l, ms⟩) Q := by
  obtain ⟨hob, hq⟩ : (evOps tb sp ch m ops ops 0 env l).ob ∧ Q .normal (CS.st ⟨m + ops.length, (evOps tb sp ch m ops ops 0 env l).env, (evOps tb sp ch m ops ops 0 env l).l, ms⟩) := by
    obtain ⟨ho, hq⟩ := h _ _ _ _ rfl
    obtain ⟨h1, h2, h3, h4⟩ := Zem ch m ops ops 0 m env l True ho
    rw [h1, h2, h4] at hq
    exact ⟨h3, hq⟩
  obtain ⟨h1, h2, μ', h3, h4, h5⟩ := Zen (ro := ro) (N := N) htb hmz hsp ch m ops ms ops 0 env l (ltK m) hN (fun k hk => by show Nat.blt k m = false; cases hb : Nat.blt k m with | false => rfl | true => rw [Nat.blt_eq] at hb; omega) hob
  intro n K Z ν w a hg
  refine Zb6 (Q := Post N κ K Z w ν fun e s => e = .normal ∧ s = ⟨μ', lke (evOps tb sp ch m ops ops 0 env l).env, lkr (evOps tb sp ch m ops ops 0 env l).l, ms⟩) ?_ ?_
  · rintro e a' w' ⟨Z', ν', s', g1, g2, g3, rfl, rfl⟩
    refine ⟨Z', ν', _, g1, g2, g3.widen fun k hk => ?_, hq⟩
    show Nat.blt k (m + ops.length) = true
    rw [Nat.blt_eq]
    rcases Nat.lt_or_ge k (m + ops.length) with h | h
    · exact h
    · rw [h3 k (by omega)] at hk; cases hk
  · rw [Zd2 hG (ops' := ops.toArray), ← wpOpsIn_eq_wpListIn ops 0 (by simp)]
    refine run_text (its := fun x => itemAt (evOps tb sp ch m ops ops 0 env l).its (x - 0)) (σ' := ⟨μ', lke (evOps tb sp ch m ops ops 0 env l).env, lkr (evOps tb sp ch m ops ops 0 env l).l, ms⟩) ⟨rfl, rfl⟩ (List.range' 0 ops.length) (CS.st ⟨m, env, l, ms⟩) (fun i hi => ?_) (fun k hk => ?_) h5 n K Z ν w a hg
    · rw [List.mem_range'] at hi
      obtain ⟨q, hq, rfl⟩ := hi
      have hlt : 0 + 1 * q < ops.length := by omega
      refine ⟨ops[0 + 1 * q], by simp, ?_⟩
      exact h2 _ _ (List.getElem?_eq_getElem hlt)
    · show Nat.blt k m = true
      rw [Nat.blt_eq]
      have := Nat.le_of_ble_eq_true hκ
      omega
/-! ### The call -/
def rhoC : List Nat → Nat → Nat → Nat
  | [], m, j => m + j
  | k :: _, _, 0 => k
  | _ :: t, m, j + 1 => rhoC t m j
def dels : List Nat → List (Nat × Option Blk) → List (Nat × Option Blk)
  | [], l => l
  | k :: t, l => del k (dels t l)
def renR (ρ : Nat → Nat) : List (Nat × Option Blk) → List (Nat × Option Blk)
  | [] => []
  | (k, some B) :: t => (ρ k, some (renB ρ B)) :: renR ρ t
  | (k, none) :: t => (ρ k, none) :: renR ρ t
def kkOK (m : Nat) : List Nat → Bool
  | [] => true
  | k :: t => Nat.blt k m && (t.all fun j => !(Nat.beq k j)) && kkOK m t
def outR (kk : List Nat) (m : Nat) (g l : List (Nat × Option Blk)) : List (Nat × Option Blk) := renR (rhoC kk m) g ++ dels kk l
theorem Zdd {m : Nat} : ∀ {kk : List Nat} {j : Nat}, j < kk.length → kkOK m kk = true → rhoC kk m j ∈ kk ∧ rhoC kk m j < m
  | [], j, h, _ => absurd h (Nat.not_lt_zero j)
  | k :: t, 0, _, hk => by
    simp only [kkOK, Bool.and_eq_true, Nat.blt_eq] at hk
    exact ⟨List.mem_cons_self, hk.1.1⟩
  | k :: t, j + 1, h, hk => by
    simp only [kkOK, Bool.and_eq_true, Nat.blt_eq] at hk
    obtain ⟨h1, h2⟩ := Zdd (kk := t) (j := j) (by simp only [List.length_cons] at h; omega) hk.2
    exact ⟨List.mem_cons_of_mem _ h1, h2⟩
theorem Zd6 {m : Nat} : ∀ {kk : List Nat} {j : Nat}, kk.length ≤ j → rhoC kk m j = m + (j - kk.length)
  | [], j, _ => rfl
  | k :: t, 0, h => absurd h (by simp)
  | k :: t, j + 1, h => by
    show rhoC t m j = _
    rw [Zd6 (by simp only [List.length_cons] at h; omega)]
    simp only [List.length_cons]; omega
theorem Zg3 {m : Nat} : ∀ {kk : List Nat} {i j : Nat}, kkOK m kk = true → i < j → rhoC kk m i ≠ rhoC kk m j
  | [], i, j, _, h => by show m + i ≠ m + j; omega
  | k :: t, 0, j + 1, hk, h => by
    show k ≠ rhoC t m j
    simp only [kkOK, Bool.and_eq_true, Nat.blt_eq, List.all_eq_true, Bool.not_eq_true'] at hk
    rcases Nat.lt_or_ge j t.length with hj | hj
    · intro e
      have := hk.1.2 _ (Zdd hj hk.2).1
      rw [← e, Nat.beq_refl] at this; cases this
    · rw [Zd6 hj]; omega
  | k :: t, i + 1, j + 1, hk, h => by
    simp only [kkOK, Bool.and_eq_true] at hk
    exact Zg3 (kk := t) hk.2 (by omega)
theorem rhoC_inj {m : Nat} {kk : List Nat} (hk : kkOK m kk = true) {i j : Nat} (h : rhoC kk m i = rhoC kk m j) : i = j := by
  rcases Nat.lt_trichotomy i j with h' | h' | h'
  · exact absurd h (Zg3 hk h')
  · exact h'
  · exact absurd h.symm (Zg3 hk h')
theorem lko_app {a b : List (Nat × Option Blk)} {k : Nat} : lko (a ++ b) k = match lko a k with | some x => some x | none => lko b k := by
  induction a with
  | nil => rfl
  | cons p t ih =>
    obtain ⟨j, x⟩ := p
    simp only [List.cons_append, lko]
    split <;> first | rfl | exact ih
theorem Zgg {ρ : Nat → Nat} (hρ : ∀ i j, ρ i = ρ j → i = j) {k : Nat} : ∀ {g : List (Nat × Option Blk)}, (∃ j, ρ j = k ∧ (∃ x, lko g j = some x ∧ lko (renR ρ g) k = some (x.map (renB ρ)))) ∨ (lko (renR ρ g) k = none ∧ ∀ j, ρ j = k → lko g j = none)
  | [] => .inr ⟨rfl, fun _ _ => rfl⟩
  | (i, x) :: t => by
    have hx : lko (renR ρ ((i, x) :: t)) k = match Nat.beq k (ρ i) with | true => some (x.map (renB ρ)) | false => lko (renR ρ t) k := by
      cases x <;> rfl
    rw [hx]
    cases hb : Nat.beq k (ρ i) with
    | true =>
      obtain rfl := Nat.eq_of_beq_eq_true hb
      refine .inl ⟨i, rfl, x, ?_, rfl⟩
      simp [lko, Nat.beq_refl]
    | false =>
      have hne : ∀ j, ρ j = k → Nat.beq j i = false := by
        rintro j rfl
        refine beqN ?_
        rintro rfl
        rw [Nat.beq_refl] at hb; cases hb
      rcases Zgg hρ (g := t) (k := k) with ⟨j, e, y, h1, h2⟩ | ⟨h1, h2⟩
      · refine .inl ⟨j, e, y, ?_, h2⟩
        simp only [lko, hne j e]; exact h1
      · refine .inr ⟨h1, fun j e => ?_⟩
        simp only [lko, hne j e]; exact h2 j e
theorem Zej {l : List (Nat × Option Blk)} {k : Nat} {B : Blk} : ∀ {kk : List Nat}, lkr (dels kk l) k = some B → k ∉ kk ∧ lkr l k = some B
  | [], h => ⟨List.not_mem_nil, h⟩
  | j :: t, h => by
    rw [show dels (j :: t) l = del j (dels t l) from rfl, lkr_del] at h
    dsimp only at h
    split at h
    · cases h
    · rename_i hne
      obtain ⟨h1, h2⟩ := Zej h
      refine ⟨fun hm => ?_, h2⟩
      rcases List.mem_cons.1 hm with e | hm
      · exact hne e
      · exact h1 hm
theorem Zdx {kk : List Nat} {m gm : Nat} (hk : kkOK m kk = true) (hle : kk.length ≤ gm) : ∀ j, ltK gm j = true → ltK (m + (gm - kk.length)) (rhoC kk m j) = true := by
  intro j hj
  have hj : j < gm := by rw [ltK, Nat.blt_eq] at hj; exact hj
  show Nat.blt _ _ = true
  rw [Nat.blt_eq]
  rcases Nat.lt_or_ge j kk.length with h | h
  · have := (Zdd h hk).2; omega
  · rw [Zd6 h]; omega
theorem Ze2 {μ μ' : Nat → Bool} {ρ : Nat → Nat} (h : ∀ k, μ k = true → μ' (ρ k) = true) : ∀ {u : AV}, men μ u = true → men μ' (ren ρ u) = true := by
  intro u
  induction u with
  | own k => exact h k
  | adr k _ _ _ => exact h k
  | yld k => exact h k
  | agg l ih => exact ih
  | tup l ih => exact ih
  | fn f c ih => exact ih
  | whn g u ih => cases g with
    | true => exact ih
    | false => intro _; rfl
  | cons a b ih1 ih2 => intro hm; simp only [men, Bool.and_eq_true] at hm; simp only [men, ren, ih1 hm.1, ih2 hm.2]; rfl
  | _ => intro _; rfl
theorem menB_renK {μ μ' : Nat → Bool} {ρ : Nat → Nat} (h : ∀ k, μ k = true → μ' (ρ k) = true) {B : Blk} (hm : menB μ B) : menB μ' (renB ρ B) := by
  cases B with
  | avs sz n f => exact fun j hj => Ze2 h (hm j hj)
  | box u => exact Ze2 h hm
  | rowsH xss i k => exact h k hm
  | sem ks A =>
    intro k hk
    obtain ⟨j, hj, rfl⟩ := List.mem_map.1 hk
    exact h j (hm j hj)
  | _ => exact trivial
theorem awpL_callp {o : Oper} {x : Operand} {xs : List Operand} {ts : Array TypeId} {f : Nat} {caps : AV} {s : CS} (kk : List Nat) {args : List AV} {rin : List (Nat × Option Blk)} {E : List PanicEntry → Prop} {Q0 : GR → Prop} {Q : Exit → St → Prop}
    (hS : FP P f args rin kk.length E Q0)
    (ho : o.op = .call ⟨.value x, xs.toArray, ts⟩) (hgd : o.guard.isNone = true) (hd : dstOK N [o] = true) (hf : opv (lke s.env) x = .fn f caps) (hpc : properL caps = true)
    (hargs : appL (ofL (opv (lke s.env)) xs) caps = ren (rhoC kk s.m) (mkL args)) (hmen : men (ltK kk.length) (mkL args) = true) (hkk : kkOK s.m kk = true) (hκ : Nat.ble κ s.m = true)
    (hrin : ∀ j B, lkr rin j = some B → j < kk.length ∧ menB (ltK kk.length) B ∧ lkr s.rs (rhoC kk s.m j) = some (renB (rhoC kk s.m) B))
    (next : ∀ g, Q0 g → kk.length ≤ g.m → Q .normal (CS.st ⟨s.m + (g.m - kk.length), putE o.dst (ren (rhoC kk s.m) g.val) s.env, outR kk s.m g.rs s.rs, s.ms⟩)) (pan : ∀ c, E c → Q (.panic c) (CS.st ⟨s.m, s.env, dels kk s.rs, s.ms⟩)) : awpL P ro N κ [o] s.st Q := by
  intro n K Z ν w a hg
  have hw : Region.wanted o (yielded #[] a.tmps) = true := Zb7 hgd _
  simp only [wpListIn, hw, if_true]
  obtain ⟨⟨fn, hfn, hname, hbody⟩, hS⟩ := hS
  have hev : ∀ y : Operand, R Z w (opv (lke s.env) y) ν true [a.eval y] ∧ men (ltK s.m) (opv (lke s.env) y) = true := fun y => ⟨Zg5 hg y, Zfi hg y⟩
  have rf := (hev x).1
  rw [hf] at rf
  obtain ⟨cv, ecv, rcv⟩ := rf
  have ecv := one1 ecv
  have hargs2 : R Z w (ofL (opv (lke s.env)) xs) ν true (xs.map a.eval) ∧ men (ltK s.m) (ofL (opv (lke s.env)) xs) = true := Zft xs fun y _ => hev y
  have hpl : properL (ofL (opv (lke s.env)) xs) = true := by
    clear hargs hargs2 ho
    induction xs with
    | nil => rfl
    | cons x xs ih => exact ih
  have hall : R Z w (appL (ofL (opv (lke s.env)) xs) caps) ν true (xs.map a.eval ++ cv) := Zhp hpl hargs2.1 rcv
  rw [hargs] at hall
  have hall := R_ren.1 hall
  obtain ⟨Ft, hF⟩ := id hg.rs
  have hF' : ∀ k B, lkr s.rs k = some B → k < s.m := fun k B hk => by
    have := (hF k B hk).1
    rwa [show (s.st).mu k = Nat.blt k s.m from rfl, Nat.blt_eq] at this
  let ρ := rhoC kk s.m
  have hρ : ∀ i j, ρ i = ρ j → i = j := fun i j h => rhoC_inj hkk h
  let Kc : Nat → Prop := fun b => K b ∨ ∃ k B, k ∉ kk ∧ lkr s.rs k = some B ∧ Ft k b
  have hKc : ∀ b, Kc b → b < w.heap.size := fun b hb => hb.elim (hg.kl b) fun ⟨k, B, _, hk, hb⟩ => ((hF k B hk).2.2.2.1 b hb).2
  have hcall := hS Kc Z (fun j => ν (ρ j)) w (xs.map a.eval ++ cv).toArray (fun j => hg.one _) (by exact hall) hmen
    ⟨fun j => Ft (ρ j), fun j B hj => by
      obtain ⟨r1, r2, r3⟩ := hrin j B hj
      obtain ⟨g1, g2, g3, g4, g5⟩ := hF _ _ r3
      refine ⟨by show Nat.blt j _ = true; rw [Nat.blt_eq]; exact r1, r2, sat_ren.1 g3, fun b hb => ⟨?_, (g4 b hb).2⟩, fun j' B' hne hj' => ?_⟩
      · rintro (h | ⟨k, B', hk, hkr, h⟩)
        · exact (g4 b hb).1 h
        · exact g5 k B' (fun e => hk (e ▸ (Zdd r1 hkk).1)) hkr b hb h
      · obtain ⟨q1, q2, q3⟩ := hrin j' B' hj'
        exact g5 _ _ (fun e => hne (hρ _ _ e)) q3⟩
    (fun b hb => .inl (hg.zk b hb)) hKc
  have hsem : (o.semAt (FF ro).round a.eval).run P w = .ok (.enter f (xs.map a.eval ++ cv).toArray) w := by
    rw [Zb9 (by rw [ho]; intro c hc; cases hc)]
    simp [execOp, ho, resolve, ecv, Deferred.ofValue, invoke, callFunc, hfn, Sem.run_bind, Result.andThen, Sem.run, program]
    have hname' : ¬ fn.name = "runtime.NumGoroutine" := by simpa using hname
    cases hb : fn.body with
    | none => rw [hb] at hbody; cases hbody
    | some c => simp [hname', hb, Sem.run]
  refine ⟨fun f hf => trivial, ?_⟩
  rw [hsem]
  refine ⟨(fun h => by cases h), CallsIn.mono (Zcp hcall) ?_⟩
  rintro e w' (⟨y, Z', ν', v, μ', rs', rfl, hstep, h1', hν, _, hr', hm', ⟨Fn, hFn⟩, hzs, g, hq, rfl, rfl, hle, rfl⟩ | ⟨c, hc, rfl, hstep⟩)
  case inr =>
    have hold := hstep.ext.block
    have hst : Step K Z w Z w' := ⟨⟨hstep.ext.os, hstep.ext.tape, hstep.ext.output, hstep.ext.size, fun b hb => hold b (.inl hb)⟩, fun _ h => h, fun _ h => .inl h⟩
    refine ⟨Z, ν, CS.st ⟨s.m, s.env, dels kk s.rs, s.ms⟩, hst, fun _ _ => rfl, ?_, pan c hc⟩
    rw [Zbq hg.zk]
    refine ⟨hg.size, hg.one, fun t => ⟨(hg.env t).1, Zbk (fun _ h => h) (fun b hb => hst.ext.block b (hg.zk b hb)) (hg.env t).2⟩, ⟨Ft, fun k B hk => ?_⟩, hg.zk, fun b hb => Nat.lt_of_lt_of_le (hg.kl b hb) hstep.ext.size, hg.ds, hg.ml⟩
    obtain ⟨d1, d2⟩ := Zej (kk := kk) (l := s.rs) (k := k) (B := B) hk
    obtain ⟨g1, g2, g3, g4, g5⟩ := hF k B d2
    exact ⟨g1, g2, Zbo (fun _ h => h) (fun b hb => hold b (.inl (hg.zk b hb))) (fun b hb => hold b (.inr ⟨k, B, d1, d2, hb⟩)) g3, fun b hb => ⟨(g4 b hb).1, Nat.lt_of_lt_of_le (g4 b hb).2 hstep.ext.size⟩, fun k' B' hne hk' => g5 k' B' hne (Zej (kk := kk) (l := s.rs) (k := k') (B := B') hk').2⟩
  let νn : Nat → Value := fun k => if k < s.m then ν k else ν' (k - s.m + kk.length)
  have hνρ : ∀ j, j < g.m → νn (ρ j) = ν' j := fun j hj => by
    show (if ρ j < s.m then _ else _) = _
    rcases Nat.lt_or_ge j kk.length with h | h
    · rw [if_pos (Zdd h hkk).2, hν j h]
    · rw [show ρ j = s.m + (j - kk.length) from Zd6 h, if_neg (by omega)]
      congr 1; omega
  have hold : ∀ b, Kc b → w'.heap[b]? = w.heap[b]? := hstep.ext.block
  have hst : Step K Z w Z' w' := ⟨⟨hstep.ext.os, hstep.ext.tape, hstep.ext.output, hstep.ext.size, fun b hb => hold b (.inl hb)⟩, hstep.le, fun b hb => (hstep.new b hb).imp id fun h hk => h (.inl hk)⟩
  have hνold : ∀ k, ltK s.m k = true → νn k = ν k := fun k hk => by
    rw [ltK, Nat.blt_eq] at hk
    exact if_pos hk
  have hR' : R Z' w' (ren ρ g.val) νn true [y] := R_ren.2 (R_nu (fun k hk => hνρ k (by rw [ltK, Nat.blt_eq] at hk; exact hk)) hm' hr')
  have hgood : Good (un K Z') Z' N w' νn ⟨ltK (s.m + (g.m - kk.length)), lke s.env, lkr (outR kk s.m g.rs s.rs), s.ms⟩ a := by
    have hwide : ∀ k, ltK s.m k = true → ltK (s.m + (g.m - kk.length)) k = true := fun k hk => by
      simp only [ltK, Nat.blt_eq] at hk ⊢; omega
    refine ⟨hg.size, fun k => ?_, fun t => ⟨Zc2 hwide (hg.env t).1, R_nu hνold (hg.env t).1 (Zbk hst.le (fun b hb => hst.ext.block b (hg.zk b hb)) (hg.env t).2)⟩, ?_, fun b hb => .inr hb, fun b hb => ?_, ?_, fun k hk => hwide k (hg.ml k hk)⟩
    · show (if k < s.m then _ else _ : Value).oneCell' = true
      split
      · exact hg.one k
      · exact h1' _
    · refine ⟨fun k b => (∃ j B, ρ j = k ∧ lkr g.rs j = some B ∧ Fn j b) ∨ (k ∉ kk ∧ (∃ B, lkr s.rs k = some B) ∧ Ft k b), fun k B hk => ?_⟩
      have hcase : ∀ {k B}, lkr (outR kk s.m g.rs s.rs) k = some B → (∃ j B0, ρ j = k ∧ lkr g.rs j = some B0 ∧ B = renB ρ B0) ∨ ((∀ j B0, ρ j = k → lkr g.rs j ≠ some B0) ∧ k ∉ kk ∧ lkr s.rs k = some B) := by
        intro k B hk
        unfold lkr outR at hk
        rw [lko_app] at hk
        rcases Zgg hρ (g := g.rs) (k := k) with ⟨j, e, x, h1, h2⟩ | ⟨h1, h2⟩
        · rw [h2] at hk
          dsimp only at hk
          cases x with
          | none => cases hk
          | some B0 =>
            simp only [Option.map_some, Option.some.injEq] at hk
            exact .inl ⟨j, B0, e, by unfold lkr; rw [h1], hk.symm⟩
        · rw [h1] at hk
          dsimp only at hk
          obtain ⟨d1, d2⟩ := Zej (kk := kk) (l := s.rs) (k := k) (B := B) hk
          refine .inr ⟨fun j B0 e h => ?_, d1, d2⟩
          unfold lkr at h
          rw [h2 j e] at h; cases h
      have hnewF : ∀ {j B0}, lkr g.rs j = some B0 → ∀ b, ((∃ j' B, ρ j' = ρ j ∧ lkr g.rs j' = some B ∧ Fn j' b) ∨ (ρ j ∉ kk ∧ (∃ B, lkr s.rs (ρ j) = some B) ∧ Ft (ρ j) b)) ↔ Fn j b := by
        intro j B0 hj b
        constructor
        · rintro (⟨j', B, e, _, h⟩ | ⟨h1, ⟨B, h2⟩, _⟩)
          · rw [hρ _ _ e] at h; exact h
          · exfalso
            rcases Nat.lt_or_ge j kk.length with h | h
            · exact h1 (Zdd h hkk).1
            · have := hF' _ _ h2
              rw [show ρ j = s.m + (j - kk.length) from Zd6 h] at this
              omega
        · exact fun h => .inl ⟨j, B0, rfl, hj, h⟩
      have holdF : ∀ {k B}, (∀ j B0, ρ j = k → lkr g.rs j ≠ some B0) → k ∉ kk → lkr s.rs k = some B → ∀ b, ((∃ j' B, ρ j' = k ∧ lkr g.rs j' = some B ∧ Fn j' b) ∨ (k ∉ kk ∧ (∃ B, lkr s.rs k = some B) ∧ Ft k b)) ↔ Ft k b := by
        intro k B h1 h2 h3 b
        constructor
        · rintro (⟨j', B, e, h, _⟩ | ⟨_, _, h⟩)
          · exact absurd h (h1 j' B e)
          · exact h
        · exact fun h => .inr ⟨h2, ⟨B, h3⟩, h⟩
      rcases hcase hk with ⟨j, B0, rfl, hj, rfl⟩ | ⟨c1, c2, c3⟩
      · obtain ⟨f1, f2, f3, f4, f5⟩ := hFn j B0 hj
        have hjm : j < g.m := by rw [ltK, Nat.blt_eq] at f1; exact f1
        have hFe := funext fun b => propext (hnewF hj b)
        refine ⟨Zdx hkk hle j f1, menB_renK (Zdx hkk hle) f2, ?_, fun b hb => ⟨?_, (f4 b ((hnewF hj b).1 hb)).2⟩, fun k' B' hne hk' b hb => ?_⟩
        · dsimp only
          rw [hFe, hνρ j hjm]
          exact sat_ren.2 (Zdi (fun k hk => hνρ k (by rw [ltK, Nat.blt_eq] at hk; exact hk)) f2 f3)
        · have := (f4 b ((hnewF hj b).1 hb)).1
          rintro (h | h)
          · exact this (.inl (.inl h))
          · exact this (.inr h)
        · have hb := (hnewF hj b).1 hb
          rcases hcase hk' with ⟨j', B0', rfl, hj', rfl⟩ | ⟨c1, c2, c3⟩
          · exact fun h => f5 j' B0' (fun e => hne (by rw [e])) hj' b hb ((hnewF hj' b).1 h)
          · exact fun h => (f4 b hb).1 (.inl (.inr ⟨k', B', c2, c3, (holdF c1 c2 c3 b).1 h⟩))
      · obtain ⟨g1, g2, g3, g4, g5⟩ := hF k B c3
        have hFe := funext fun b => propext (holdF c1 c2 c3 b)
        have hnz : ∀ b, Ft k b → ¬ un K Z' b := fun b hb => by
          rintro (h | h)
          · exact (g4 b hb).1 h
          · rcases hstep.new b h with h2 | h2
            · exact (g4 b hb).1 (hg.zk b h2)
            · exact h2 (.inr ⟨k, B, c2, c3, hb⟩)
        refine ⟨hwide k g1, Zcu hwide g2, ?_, fun b hb => ⟨hnz b ((holdF c1 c2 c3 b).1 hb), Nat.lt_of_lt_of_le (g4 b ((holdF c1 c2 c3 b).1 hb)).2 hstep.ext.size⟩, fun k' B' hne hk' b hb => ?_⟩
        · dsimp only
          rw [hFe, hνold k g1]
          exact Zdi hνold g2 (Zbo hst.le (fun b hb => hst.ext.block b (hg.zk b hb)) (fun b hb => hold b (.inr ⟨k, B, c2, c3, hb⟩)) g3)
        · have hb := (holdF c1 c2 c3 b).1 hb
          rcases hcase hk' with ⟨j', B0', rfl, hj', rfl⟩ | ⟨d1, d2, d3⟩
          · exact fun h => ((hFn j' B0' hj').2.2.2.1 b ((hnewF hj' b).1 h)).1 (.inl (.inr ⟨k, B, c2, c3, hb⟩))
          · exact fun h => g5 k' B' hne d3 b hb ((holdF d1 d2 d3 b).1 h)
    · rcases hb with h | h
      · exact Nat.lt_of_lt_of_le (hg.kl b h) hst.ext.size
      · exact hzs b h
    · rw [hg.ds]
      exact fmC fun k hk => by rw [hνold k (hg.ml k hk)]
  refine ⟨Z', νn, _, hst, fun k hk => hνold k (by rw [ltK, Nat.blt_eq]; have := Nat.le_of_ble_eq_true hκ; omega), ?_, next g hq hle⟩
  have hd' : ∀ d, o.dst = some d → d < N := fun d hd2 => by
    simp [dstOK, hd2] at hd; exact hd
  have := Good.setd hgood hd' hR' (Ze2 (Zdx hkk hle) hm')
  rw [show CS.st ⟨s.m + (g.m - kk.length), putE o.dst (ren (rhoC kk s.m) g.val) s.env, outR kk s.m g.rs s.rs, s.ms⟩ = ⟨ltK (s.m + (g.m - kk.length)), lke (putE o.dst (ren (rhoC kk s.m) g.val) s.env), lkr (outR kk s.m g.rs s.rs), s.ms⟩ from rfl, Zeh]
  exact this
theorem awpL_call {o : Oper} {x : Operand} {xs : List Operand} {ts : Array TypeId} {f : Nat} {caps : AV} {s : CS} (kk : List Nat) {args : List AV} {rin : List (Nat × Option Blk)} {Q0 : GR → Prop} {Q : Exit → St → Prop}
    (hS : FG P f args rin kk.length Q0)
    (ho : o.op = .call ⟨.value x, xs.toArray, ts⟩) (hgd : o.guard.isNone = true) (hd : dstOK N [o] = true) (hf : opv (lke s.env) x = .fn f caps) (hpc : properL caps = true)
    (hargs : appL (ofL (opv (lke s.env)) xs) caps = ren (rhoC kk s.m) (mkL args)) (hmen : men (ltK kk.length) (mkL args) = true) (hkk : kkOK s.m kk = true) (hκ : Nat.ble κ s.m = true)
    (hrin : ∀ j B, lkr rin j = some B → j < kk.length ∧ menB (ltK kk.length) B ∧ lkr s.rs (rhoC kk s.m j) = some (renB (rhoC kk s.m) B))
    (next : ∀ g, Q0 g → kk.length ≤ g.m → Q .normal (CS.st ⟨s.m + (g.m - kk.length), putE o.dst (ren (rhoC kk s.m) g.val) s.env, outR kk s.m g.rs s.rs, s.ms⟩)) : awpL P ro N κ [o] s.st Q :=
  awpL_callp (E := fun _ => False) kk hS.fp ho hgd hd hf hpc hargs hmen hkk hκ hrin next fun _ hc => hc.elim
end
end Go.Proofs.Ytbcghiagomkadaa.Cal
namespace Go.Proofs.Ytbcghiagomkadaa.Cal
open Go
theorem tok2 : TOK Try.prog 2 ⟨.leaf, 1, 8, .int .i64 0⟩ := Za3 (d := (.int .i64)) (by kernel_rfl) (by kernel_rfl) rfl rfl rfl
theorem tok3 : TOK Try.prog 3 ⟨.leaf, 1, 8, .int .i64 0⟩ := Za3 (d := (.int .i64)) (by kernel_rfl) (by kernel_rfl) rfl rfl rfl
theorem tok4 : TOK Try.prog 4 ⟨.bool, 1, 1, .bool false⟩ := tok_bool (by kernel_rfl) (by kernel_rfl) rfl rfl
theorem tok22 : TOK Try.prog 22 ⟨.slc 3, 1, 24, .cst (.slice none 0 0)⟩ := Zf1 (by kernel_rfl) (by kernel_rfl) rfl rfl
theorem tok23 : TOK Try.prog 23 ⟨.slc 22, 1, 24, .cst (.slice none 0 0)⟩ := Zf1 (by kernel_rfl) (by kernel_rfl) rfl rfl
theorem tok24 : TOK Try.prog 24 ⟨.str [(0, 1, false), (1, 1, false), (2, 1, false)], 3, 72, .agg (.cons (.cst (.slice none 0 0)) (.cons (.cst (.slice none 0 0)) (.cons (.cst (.slice none 0 0)) .nil)))⟩ := Zcm (by kernel_rfl) (by kernel_rfl) rfl rfl
theorem tok25 : TOK Try.prog 25 ⟨.str [(0, 1, false), (1, 1, false), (2, 1, false)], 3, 72, .agg (.cons (.cst (.slice none 0 0)) (.cons (.cst (.slice none 0 0)) (.cons (.cst (.slice none 0 0)) .nil)))⟩ := Zcm (by kernel_rfl) (by kernel_rfl) rfl rfl
theorem tok26 : TOK Try.prog 26 ⟨.leaf, 1, 8, .cst .nilFunc⟩ := Za3 (d := (.func #[3, 3, 25] #[4] false)) (by kernel_rfl) (by kernel_rfl) rfl rfl rfl
theorem tok27 : TOK Try.prog 27 ⟨.leaf, 1, 8, .cst .nilFunc⟩ := Za3 (d := (.func #[] #[4] false)) (by kernel_rfl) (by kernel_rfl) rfl rfl rfl
theorem tok28 : TOK Try.prog 28 ⟨.leaf, 1, 8, .int .i64 0⟩ := Za3 (d := (.int .i64)) (by kernel_rfl) (by kernel_rfl) rfl rfl rfl
theorem tok29 : TOK Try.prog 29 ⟨.leaf, 1, 8, .cst .nilFunc⟩ := Za3 (d := (.func #[25, 3, 22] #[28] false)) (by kernel_rfl) (by kernel_rfl) rfl rfl rfl
theorem tok31 : TOK Try.prog 31 ⟨.leaf, 1, 8, .cst .nilFunc⟩ := Za3 (d := (.func #[25, 22] #[22, 4, 28] false)) (by kernel_rfl) (by kernel_rfl) rfl rfl rfl
theorem tok32 : TOK Try.prog 32 ⟨.leaf, 1, 8, .cst .nilFunc⟩ := Za3 (d := (.func #[25, 22] #[4] false)) (by kernel_rfl) (by kernel_rfl) rfl rfl rfl
theorem tok33 : TOK Try.prog 33 ⟨.leaf, 1, 8, .cst .nilFunc⟩ := Za3 (d := (.func #[22, 22] #[4] false)) (by kernel_rfl) (by kernel_rfl) rfl rfl rfl
theorem tok34 : TOK Try.prog 34 ⟨.leaf, 1, 8, .cst .nilFunc⟩ := Za3 (d := (.func #[25, 3, 22] #[4] false)) (by kernel_rfl) (by kernel_rfl) rfl rfl rfl
theorem tok35 : TOK Try.prog 35 ⟨.slc 4, 1, 24, .cst (.slice none 0 0)⟩ := Zf1 (by kernel_rfl) (by kernel_rfl) rfl rfl
theorem tok36 : TOK Try.prog 36 ⟨.leaf, 1, 8, .cst .nilFunc⟩ := Za3 (d := (.func #[25, 3, 22] #[35] false)) (by kernel_rfl) (by kernel_rfl) rfl rfl rfl
theorem tok38 : TOK Try.prog 38 ⟨.leaf, 1, 8, .cst .nilFunc⟩ := Za3 (d := (.func #[25, 3, 22] #[35, 28] false)) (by kernel_rfl) (by kernel_rfl) rfl rfl rfl
theorem tok39 : TOK Try.prog 39 ⟨.leaf, 1, 8, .cst .nilFunc⟩ := Za3 (d := (.func #[25, 22, 22] #[4] false)) (by kernel_rfl) (by kernel_rfl) rfl rfl rfl
theorem tok41 : TOK Try.prog 41 ⟨.leaf, 1, 8, .cst .nilFunc⟩ := Za3 (d := (.func #[25, 3] #[22, 28] false)) (by kernel_rfl) (by kernel_rfl) rfl rfl rfl
theorem tok42 : TOK Try.prog 42 ⟨.leaf, 1, 8, .cst .nilFunc⟩ := Za3 (d := (.func #[35, 35] #[4] false)) (by kernel_rfl) (by kernel_rfl) rfl rfl rfl
theorem tok44 : TOK Try.prog 44 ⟨.leaf, 1, 8, .cst .nilFunc⟩ := Za3 (d := (.func #[25, 3, 22, 3] #[22, 22, 28] false)) (by kernel_rfl) (by kernel_rfl) rfl rfl rfl
theorem tok45 : TOK Try.prog 45 ⟨.str [(0, 1, false), (1, 1, false)], 2, 48, .agg (.cons (.cst (.slice none 0 0)) (.cons (.cst (.slice none 0 0)) .nil))⟩ := Zcm (by kernel_rfl) (by kernel_rfl) rfl rfl
theorem tok46 : TOK Try.prog 46 ⟨.str [(0, 1, false), (1, 1, false)], 2, 48, .agg (.cons (.cst (.slice none 0 0)) (.cons (.cst (.slice none 0 0)) .nil))⟩ := Zcm (by kernel_rfl) (by kernel_rfl) rfl rfl
theorem tok47 : TOK Try.prog 47 ⟨.leaf, 1, 8, .cst .nilFunc⟩ := Za3 (d := (.func #[25, 46] #[4] false)) (by kernel_rfl) (by kernel_rfl) rfl rfl rfl
theorem tok48 : TOK Try.prog 48 ⟨.leaf, 1, 8, .cst .nilFunc⟩ := Za3 (d := (.func #[25, 46] #[3] false)) (by kernel_rfl) (by kernel_rfl) rfl rfl rfl
theorem tok49 : TOK Try.prog 49 ⟨.leaf, 1, 8, .cst .nilFunc⟩ := Za3 (d := (.func #[25, 3, 22, 3] #[4] false)) (by kernel_rfl) (by kernel_rfl) rfl rfl rfl
theorem tok50 : TOK Try.prog 50 ⟨.str [(0, 1, false), (1, 1, false)], 2, 48, .agg (.cons (.cst (.slice none 0 0)) (.cons (.cst (.slice none 0 0)) .nil))⟩ := Zcm (by kernel_rfl) (by kernel_rfl) rfl rfl
theorem tok51 : TOK Try.prog 51 ⟨.str [(0, 1, false), (1, 1, false)], 2, 48, .agg (.cons (.cst (.slice none 0 0)) (.cons (.cst (.slice none 0 0)) .nil))⟩ := Zcm (by kernel_rfl) (by kernel_rfl) rfl rfl
theorem tok53 : TOK Try.prog 53 ⟨.leaf, 1, 8, .cst .nilFunc⟩ := Za3 (d := (.func #[25] #[51, 28] false)) (by kernel_rfl) (by kernel_rfl) rfl rfl rfl
theorem tok54 : TOK Try.prog 54 ⟨.leaf, 1, 8, .cst .nilFunc⟩ := Za3 (d := (.func #[25] #[4] false)) (by kernel_rfl) (by kernel_rfl) rfl rfl rfl
theorem tok55 : TOK Try.prog 55 ⟨.leaf, 1, 8, .cst .nilFunc⟩ := Za3 (d := (.func #[25, 51] #[4] false)) (by kernel_rfl) (by kernel_rfl) rfl rfl rfl
theorem tok56 : TOK Try.prog 56 ⟨.leaf, 1, 8, .cst .nilFunc⟩ := Za3 (d := (.func #[25] #[22] false)) (by kernel_rfl) (by kernel_rfl) rfl rfl rfl
theorem tok57 : TOK Try.prog 57 ⟨.leaf, 1, 8, .cst .nilFunc⟩ := Za3 (d := (.func #[] #[25] false)) (by kernel_rfl) (by kernel_rfl) rfl rfl rfl
theorem tok58 : TOK Try.prog 58 ⟨.str [(0, 3, true), (3, 1, false), (4, 1, false)], 5, 104, .agg (.cons (.cst (.slice none 0 0)) (.cons (.cst (.slice none 0 0)) (.cons (.cst (.slice none 0 0)) (.cons (.int .i64 0) (.cons (.cst (.slice none 0 0)) .nil)))))⟩ := Zcm (by kernel_rfl) (by kernel_rfl) rfl rfl
theorem tok59 : TOK Try.prog 59 ⟨.str [(0, 3, true), (3, 1, false), (4, 1, false)], 5, 104, .agg (.cons (.cst (.slice none 0 0)) (.cons (.cst (.slice none 0 0)) (.cons (.cst (.slice none 0 0)) (.cons (.int .i64 0) (.cons (.cst (.slice none 0 0)) .nil)))))⟩ := Zcm (by kernel_rfl) (by kernel_rfl) rfl rfl
theorem tok61 : TOK Try.prog 61 ⟨.leaf, 1, 8, .cst .nilFunc⟩ := Za3 (d := (.func #[25, 3, 22] #[59, 28] false)) (by kernel_rfl) (by kernel_rfl) rfl rfl rfl
theorem tok62 : TOK Try.prog 62 ⟨.leaf, 1, 8, .cst .nilFunc⟩ := Za3 (d := (.func #[] #[35] false)) (by kernel_rfl) (by kernel_rfl) rfl rfl rfl
theorem tok64 : TOK Try.prog 64 ⟨.leaf, 1, 8, .cst .nilFunc⟩ := Za3 (d := (.func #[25, 3] #[35, 22] false)) (by kernel_rfl) (by kernel_rfl) rfl rfl rfl
theorem tok65 : TOK Try.prog 65 ⟨.leaf, 1, 8, .cst .nilFunc⟩ := Za3 (d := (.func #[22] #[22] false)) (by kernel_rfl) (by kernel_rfl) rfl rfl rfl
theorem tok66 : TOK Try.prog 66 ⟨.leaf, 1, 8, .cst .nilFunc⟩ := Za3 (d := (.func #[22, 3] #[4] false)) (by kernel_rfl) (by kernel_rfl) rfl rfl rfl
theorem tok67 : TOK Try.prog 67 ⟨.leaf, 1, 8, .cst .nilFunc⟩ := Za3 (d := (.func #[25, 3] #[35] false)) (by kernel_rfl) (by kernel_rfl) rfl rfl rfl
theorem tok68 : TOK Try.prog 68 ⟨.map, 1, 8, .cst (.map none)⟩ := tok_map (by kernel_rfl) (by kernel_rfl) rfl rfl
theorem tok69 : TOK Try.prog 69 ⟨.leaf, 1, 8, .cst .nilFunc⟩ := Za3 (d := (.func #[3, 70] #[68] false)) (by kernel_rfl) (by kernel_rfl) rfl rfl rfl
theorem tok70 : TOK Try.prog 70 ⟨.leaf, 1, 8, .cst .nilFunc⟩ := Za3 (d := (.func #[3] #[4] false)) (by kernel_rfl) (by kernel_rfl) rfl rfl rfl
theorem tok71 : TOK Try.prog 71 ⟨.leaf, 1, 8, .cst .nilFunc⟩ := Za3 (d := (.func #[90] #[] false)) (by kernel_rfl) (by kernel_rfl) rfl rfl rfl
theorem tok72 : TOK Try.prog 72 ⟨.leaf, 1, 8, .cst .nilFunc⟩ := Za3 (d := (.func #[90] #[] false)) (by kernel_rfl) (by kernel_rfl) rfl rfl rfl
theorem tok73 : TOK Try.prog 73 ⟨.leaf, 1, 8, .cst .nilFunc⟩ := Za3 (d := (.func #[] #[72] false)) (by kernel_rfl) (by kernel_rfl) rfl rfl rfl
theorem tok75 : TOK Try.prog 75 ⟨.leaf, 1, 8, .cst .nilFunc⟩ := Za3 (d := (.func #[68, 3, 3] #[22] false)) (by kernel_rfl) (by kernel_rfl) rfl rfl rfl
theorem tok76 : TOK Try.prog 76 ⟨.leaf, 1, 8, .cst .nilFunc⟩ := Za3 (d := (.func #[] #[22] false)) (by kernel_rfl) (by kernel_rfl) rfl rfl rfl
theorem tok77 : TOK Try.prog 77 ⟨.leaf, 1, 8, .cst .nilFunc⟩ := Za3 (d := (.func #[22, 3] #[3] false)) (by kernel_rfl) (by kernel_rfl) rfl rfl rfl
theorem tok79 : TOK Try.prog 79 ⟨.leaf, 1, 8, .cst .nilFunc⟩ := Za3 (d := (.func #[25, 51, 3] #[25, 4] false)) (by kernel_rfl) (by kernel_rfl) rfl rfl rfl
theorem tok80 : TOK Try.prog 80 ⟨.leaf, 1, 8, .cst .nilFunc⟩ := Za3 (d := (.func #[25, 35] #[22] false)) (by kernel_rfl) (by kernel_rfl) rfl rfl rfl
theorem tok81 : TOK Try.prog 81 ⟨.leaf, 1, 8, .cst .nilFunc⟩ := Za3 (d := (.func #[3] #[22] false)) (by kernel_rfl) (by kernel_rfl) rfl rfl rfl
theorem tok82 : TOK Try.prog 82 ⟨.str [(0, 1, false), (1, 1, false), (2, 1, false)], 3, 32, .agg (.cons (.bool false) (.cons (.bool false) (.cons (.cst (.slice none 0 0)) .nil)))⟩ := Zcm (by kernel_rfl) (by kernel_rfl) rfl rfl
theorem tok83 : TOK Try.prog 83 ⟨.str [(0, 1, false), (1, 1, false), (2, 1, false)], 3, 32, .agg (.cons (.bool false) (.cons (.bool false) (.cons (.cst (.slice none 0 0)) .nil)))⟩ := Zcm (by kernel_rfl) (by kernel_rfl) rfl rfl
theorem tok84 : TOK Try.prog 84 ⟨.str [(0, 3, true), (3, 1, false), (4, 3, true), (7, 1, false), (8, 1, false)], 9, 160, .agg (.cons (.cst (.slice none 0 0)) (.cons (.cst (.slice none 0 0)) (.cons (.cst (.slice none 0 0)) (.cons (.int .i64 0) (.cons (.bool false) (.cons (.bool false) (.cons (.cst (.slice none 0 0)) (.cons (.cst (.slice none 0 0)) (.cons (.cst (.slice none 0 0)) .nil)))))))))⟩ := Zcm (by kernel_rfl) (by kernel_rfl) rfl rfl
theorem tok85 : TOK Try.prog 85 ⟨.str [(0, 3, true), (3, 1, false), (4, 3, true), (7, 1, false), (8, 1, false)], 9, 160, .agg (.cons (.cst (.slice none 0 0)) (.cons (.cst (.slice none 0 0)) (.cons (.cst (.slice none 0 0)) (.cons (.int .i64 0) (.cons (.bool false) (.cons (.bool false) (.cons (.cst (.slice none 0 0)) (.cons (.cst (.slice none 0 0)) (.cons (.cst (.slice none 0 0)) .nil)))))))))⟩ := Zcm (by kernel_rfl) (by kernel_rfl) rfl rfl
theorem tok86 : TOK Try.prog 86 ⟨.slc 83, 1, 24, .cst (.slice none 0 0)⟩ := Zf1 (by kernel_rfl) (by kernel_rfl) rfl rfl
theorem tok87 : TOK Try.prog 87 ⟨.leaf, 1, 8, .cst .nilFunc⟩ := Za3 (d := (.func #[] #[86] false)) (by kernel_rfl) (by kernel_rfl) rfl rfl rfl
theorem tok88 : TOK Try.prog 88 ⟨.leaf, 1, 8, .cst .nilFunc⟩ := Za3 (d := (.func #[86] #[4] false)) (by kernel_rfl) (by kernel_rfl) rfl rfl rfl
theorem tok89 : TOK Try.prog 89 ⟨.leaf, 1, 8, .cst .nilFunc⟩ := Za3 (d := (.func #[25, 3, 3] #[35] false)) (by kernel_rfl) (by kernel_rfl) rfl rfl rfl
theorem tok90 : TOK Try.prog 90 ⟨.leaf, 1, 8, .cst .nilFunc⟩ := Za3 (d := (.func #[3, 22] #[4] false)) (by kernel_rfl) (by kernel_rfl) rfl rfl rfl
theorem tok91 : TOK Try.prog 91 ⟨.leaf, 1, 8, .cst .nilFunc⟩ := Za3 (d := (.func #[22] #[] false)) (by kernel_rfl) (by kernel_rfl) rfl rfl rfl
theorem tok92 : TOK Try.prog 92 ⟨.leaf, 1, 8, .cst .nilFunc⟩ := Za3 (d := (.func #[25, 35, 3, 35] #[35] false)) (by kernel_rfl) (by kernel_rfl) rfl rfl rfl
theorem tok93 : TOK Try.prog 93 ⟨.leaf, 1, 8, .cst .nilFunc⟩ := Za3 (d := (.func #[86, 3] #[83] false)) (by kernel_rfl) (by kernel_rfl) rfl rfl rfl
theorem tok94 : TOK Try.prog 94 ⟨.leaf, 1, 8, .cst .nilFunc⟩ := Za3 (d := (.func #[83, 83, 3] #[3] false)) (by kernel_rfl) (by kernel_rfl) rfl rfl rfl
theorem tok95 : TOK Try.prog 95 ⟨.leaf, 1, 8, .cst .nilFunc⟩ := Za3 (d := (.func #[3] #[83] false)) (by kernel_rfl) (by kernel_rfl) rfl rfl rfl
theorem tok96 : TOK Try.prog 96 ⟨.leaf, 1, 8, .cst .nilFunc⟩ := Za3 (d := (.func #[3, 3] #[3] false)) (by kernel_rfl) (by kernel_rfl) rfl rfl rfl
theorem tok97 : TOK Try.prog 97 ⟨.leaf, 1, 8, .cst .nilFunc⟩ := Za3 (d := (.func #[] #[3] false)) (by kernel_rfl) (by kernel_rfl) rfl rfl rfl
def tb : Nat → Option TI
  | 2 => some ⟨.leaf, 1, 8, .int .i64 0⟩
  | 3 => some ⟨.leaf, 1, 8, .int .i64 0⟩
  | 4 => some ⟨.bool, 1, 1, .bool false⟩
  | 22 => some ⟨.slc 3, 1, 24, .cst (.slice none 0 0)⟩
  | 23 => some ⟨.slc 22, 1, 24, .cst (.slice none 0 0)⟩
  | 24 => some ⟨.str [(0, 1, false), (1, 1, false), (2, 1, false)], 3, 72, .agg (.cons (.cst (.slice none 0 0)) (.cons (.cst (.slice none 0 0)) (.cons (.cst (.slice none 0 0)) .nil)))⟩
  | 25 => some ⟨.str [(0, 1, false), (1, 1, false), (2, 1, false)], 3, 72, .agg (.cons (.cst (.slice none 0 0)) (.cons (.cst (.slice none 0 0)) (.cons (.cst (.slice none 0 0)) .nil)))⟩
  | 26 => some ⟨.leaf, 1, 8, .cst .nilFunc⟩
  | 27 => some ⟨.leaf, 1, 8, .cst .nilFunc⟩
  | 28 => some ⟨.leaf, 1, 8, .int .i64 0⟩
  | 29 => some ⟨.leaf, 1, 8, .cst .nilFunc⟩
  | 31 => some ⟨.leaf, 1, 8, .cst .nilFunc⟩
  | 32 => some ⟨.leaf, 1, 8, .cst .nilFunc⟩
  | 33 => some ⟨.leaf, 1, 8, .cst .nilFunc⟩
  | 34 => some ⟨.leaf, 1, 8, .cst .nilFunc⟩
  | 35 => some ⟨.slc 4, 1, 24, .cst (.slice none 0 0)⟩
  | 36 => some ⟨.leaf, 1, 8, .cst .nilFunc⟩
  | 38 => some ⟨.leaf, 1, 8, .cst .nilFunc⟩
  | 39 => some ⟨.leaf, 1, 8, .cst .nilFunc⟩
  | 41 => some ⟨.leaf, 1, 8, .cst .nilFunc⟩
  | 42 => some ⟨.leaf, 1, 8, .cst .nilFunc⟩
  | 44 => some ⟨.leaf, 1, 8, .cst .nilFunc⟩
  | 45 => some ⟨.str [(0, 1, false), (1, 1, false)], 2, 48, .agg (.cons (.cst (.slice none 0 0)) (.cons (.cst (.slice none 0 0)) .nil))⟩
  | 46 => some ⟨.str [(0, 1, false), (1, 1, false)], 2, 48, .agg (.cons (.cst (.slice none 0 0)) (.cons (.cst (.slice none 0 0)) .nil))⟩
  | 47 => some ⟨.leaf, 1, 8, .cst .nilFunc⟩
  | 48 => some ⟨.leaf, 1, 8, .cst .nilFunc⟩
  | 49 => some ⟨.leaf, 1, 8, .cst .nilFunc⟩
  | 50 => some ⟨.str [(0, 1, false), (1, 1, false)], 2, 48, .agg (.cons (.cst (.slice none 0 0)) (.cons (.cst (.slice none 0 0)) .nil))⟩
  | 51 => some ⟨.str [(0, 1, false), (1, 1, false)], 2, 48, .agg (.cons (.cst (.slice none 0 0)) (.cons (.cst (.slice none 0 0)) .nil))⟩
  | 53 => some ⟨.leaf, 1, 8, .cst .nilFunc⟩
  | 54 => some ⟨.leaf, 1, 8, .cst .nilFunc⟩
  | 55 => some ⟨.leaf, 1, 8, .cst .nilFunc⟩
  | 56 => some ⟨.leaf, 1, 8, .cst .nilFunc⟩
  | 57 => some ⟨.leaf, 1, 8, .cst .nilFunc⟩
  | 58 => some ⟨.str [(0, 3, true), (3, 1, false), (4, 1, false)], 5, 104, .agg (.cons (.cst (.slice none 0 0)) (.cons (.cst (.slice none 0 0)) (.cons (.cst (.slice none 0 0)) (.cons (.int .i64 0) (.cons (.cst (.slice none 0 0)) .nil)))))⟩
  | 59 => some ⟨.str [(0, 3, true), (3, 1, false), (4, 1, false)], 5, 104, .agg (.cons (.cst (.slice none 0 0)) (.cons (.cst (.slice none 0 0)) (.cons (.cst (.slice none 0 0)) (.cons (.int .i64 0) (.cons (.cst (.slice none 0 0)) .nil)))))⟩
  | 61 => some ⟨.leaf, 1, 8, .cst .nilFunc⟩
  | 62 => some ⟨.leaf, 1, 8, .cst .nilFunc⟩
  | 64 => some ⟨.leaf, 1, 8, .cst .nilFunc⟩
  | 65 => some ⟨.leaf, 1, 8, .cst .nilFunc⟩
  | 66 => some ⟨.leaf, 1, 8, .cst .nilFunc⟩
  | 67 => some ⟨.leaf, 1, 8, .cst .nilFunc⟩
  | 68 => some ⟨.map, 1, 8, .cst (.map none)⟩
  | 69 => some ⟨.leaf, 1, 8, .cst .nilFunc⟩
  | 70 => some ⟨.leaf, 1, 8, .cst .nilFunc⟩
  | 71 => some ⟨.leaf, 1, 8, .cst .nilFunc⟩
  | 72 => some ⟨.leaf, 1, 8, .cst .nilFunc⟩
  | 73 => some ⟨.leaf, 1, 8, .cst .nilFunc⟩
  | 75 => some ⟨.leaf, 1, 8, .cst .nilFunc⟩
  | 76 => some ⟨.leaf, 1, 8, .cst .nilFunc⟩
  | 77 => some ⟨.leaf, 1, 8, .cst .nilFunc⟩
  | 79 => some ⟨.leaf, 1, 8, .cst .nilFunc⟩
  | 80 => some ⟨.leaf, 1, 8, .cst .nilFunc⟩
  | 81 => some ⟨.leaf, 1, 8, .cst .nilFunc⟩
  | 82 => some ⟨.str [(0, 1, false), (1, 1, false), (2, 1, false)], 3, 32, .agg (.cons (.bool false) (.cons (.bool false) (.cons (.cst (.slice none 0 0)) .nil)))⟩
  | 83 => some ⟨.str [(0, 1, false), (1, 1, false), (2, 1, false)], 3, 32, .agg (.cons (.bool false) (.cons (.bool false) (.cons (.cst (.slice none 0 0)) .nil)))⟩
  | 84 => some ⟨.str [(0, 3, true), (3, 1, false), (4, 3, true), (7, 1, false), (8, 1, false)], 9, 160, .agg (.cons (.cst (.slice none 0 0)) (.cons (.cst (.slice none 0 0)) (.cons (.cst (.slice none 0 0)) (.cons (.int .i64 0) (.cons (.bool false) (.cons (.bool false) (.cons (.cst (.slice none 0 0)) (.cons (.cst (.slice none 0 0)) (.cons (.cst (.slice none 0 0)) .nil)))))))))⟩
  | 85 => some ⟨.str [(0, 3, true), (3, 1, false), (4, 3, true), (7, 1, false), (8, 1, false)], 9, 160, .agg (.cons (.cst (.slice none 0 0)) (.cons (.cst (.slice none 0 0)) (.cons (.cst (.slice none 0 0)) (.cons (.int .i64 0) (.cons (.bool false) (.cons (.bool false) (.cons (.cst (.slice none 0 0)) (.cons (.cst (.slice none 0 0)) (.cons (.cst (.slice none 0 0)) .nil)))))))))⟩
  | 86 => some ⟨.slc 83, 1, 24, .cst (.slice none 0 0)⟩
  | 87 => some ⟨.leaf, 1, 8, .cst .nilFunc⟩
  | 88 => some ⟨.leaf, 1, 8, .cst .nilFunc⟩
  | 89 => some ⟨.leaf, 1, 8, .cst .nilFunc⟩
  | 90 => some ⟨.leaf, 1, 8, .cst .nilFunc⟩
  | 91 => some ⟨.leaf, 1, 8, .cst .nilFunc⟩
  | 92 => some ⟨.leaf, 1, 8, .cst .nilFunc⟩
  | 93 => some ⟨.leaf, 1, 8, .cst .nilFunc⟩
  | 94 => some ⟨.leaf, 1, 8, .cst .nilFunc⟩
  | 95 => some ⟨.leaf, 1, 8, .cst .nilFunc⟩
  | 96 => some ⟨.leaf, 1, 8, .cst .nilFunc⟩
  | 97 => some ⟨.leaf, 1, 8, .cst .nilFunc⟩
  | _ => none
theorem htb : TabOK Try.prog tb := by
  intro t i h
  unfold tb at h
  split at h
  · cases h; exact tok2
  · cases h; exact tok3
  · cases h; exact tok4
  · cases h; exact tok22
  · cases h; exact tok23
  · cases h; exact tok24
  · cases h; exact tok25
  · cases h; exact tok26
  · cases h; exact tok27
  · cases h; exact tok28
  · cases h; exact tok29
  · cases h; exact tok31
  · cases h; exact tok32
  · cases h; exact tok33
  · cases h; exact tok34
  · cases h; exact tok35
  · cases h; exact tok36
  · cases h; exact tok38
  · cases h; exact tok39
  · cases h; exact tok41
  · cases h; exact tok42
  · cases h; exact tok44
  · cases h; exact tok45
  · cases h; exact tok46
  · cases h; exact tok47
  · cases h; exact tok48
  · cases h; exact tok49
  · cases h; exact tok50
  · cases h; exact tok51
  · cases h; exact tok53
  · cases h; exact tok54
  · cases h; exact tok55
  · cases h; exact tok56
  · cases h; exact tok57
  · cases h; exact tok58
  · cases h; exact tok59
  · cases h; exact tok61
  · cases h; exact tok62
  · cases h; exact tok64
  · cases h; exact tok65
  · cases h; exact tok66
  · cases h; exact tok67
  · cases h; exact tok68
  · cases h; exact tok69
  · cases h; exact tok70
  · cases h; exact tok71
  · cases h; exact tok72
  · cases h; exact tok73
  · cases h; exact tok75
  · cases h; exact tok76
  · cases h; exact tok77
  · cases h; exact tok79
  · cases h; exact tok80
  · cases h; exact tok81
  · cases h; exact tok82
  · cases h; exact tok83
  · cases h; exact tok84
  · cases h; exact tok85
  · cases h; exact tok86
  · cases h; exact tok87
  · cases h; exact tok88
  · cases h; exact tok89
  · cases h; exact tok90
  · cases h; exact tok91
  · cases h; exact tok92
  · cases h; exact tok93
  · cases h; exact tok94
  · cases h; exact tok95
  · cases h; exact tok96
  · cases h; exact tok97
  · cases h
theorem hmz : ∀ t i, tb t = some i → men noK i.zero = true := by
  intro t i h
  unfold tb at h
  split at h <;> first | (cases h; done) | (cases h; rfl)
theorem hmo : Try.prog.follows .mixedOrders = true := by kernel_rfl
end Go.Proofs.Ytbcghiagomkadaa.Cal
namespace Go.Proofs.Ytbcghiagomkadaa.Cal
universe u v
theorem z0 {α : Type u} : (none : Option α).isNone = true := rfl
theorem z1 {α : Type u} {l : List α} {i : Nat} {a : α} : (l.set i a).length = l.length := List.length_set
theorem z2 {α : Type u} : ([] : List α).length = 0 := rfl
theorem z3 (n : Nat) : n - 0 = n := rfl
theorem z4 (n : Nat) : n + 0 = n := rfl
theorem z5 (h : Decidable True) : @decide True h = true := decide_true h
theorem z6 (h : Decidable False) : @decide False h = false := decide_false h
theorem z7 : (!false) = true := Bool.not_false
theorem z8 : (!true) = false := Bool.not_true
theorem z9 (b : Bool) : (b && true) = b := Bool.and_true b
theorem z10 (b : Bool) : (true && b) = b := Bool.true_and b
theorem z11 (b : Bool) : (b && false) = false := Bool.and_false b
theorem z12 (b : Bool) : (false && b) = false := Bool.false_and b
theorem z13 (b : Bool) : (b && b) = b := Bool.and_self b
theorem z14 (b : Bool) : (b || true) = true := Bool.or_true b
theorem z15 (b : Bool) : (true || b) = true := Bool.true_or b
theorem z16 (b : Bool) : (b || false) = b := Bool.or_false b
theorem z17 (b : Bool) : (false || b) = b := Bool.false_or b
theorem z18 (b : Bool) : (b || b) = b := Bool.or_self b
theorem z19 {α : Type u} (a b : α) : (bif true then a else b) = a := rfl
theorem z20 {α : Type u} (a b : α) : (bif false then a else b) = b := rfl
theorem z21 {α : Type u} {l : List α} : l.toArray.toList = l := rfl
theorem z22 {α : Type u} {β : Type v} {f : α → β} {a : α} {l : List α} : List.map f (a :: l) = f a :: List.map f l := List.map_cons
theorem z23 {α : Type u} {β : Type v} {f : α → β} : List.map f [] = [] := List.map_nil
theorem z24 {α : Type u} {a : α} {l : List α} : (a :: l)[0]? = some a := rfl
theorem z25 {α : Type u} {a : α} {i : Nat} {l : List α} : (a :: l)[i + 1]? = l[i]? := rfl
theorem z26 {α : Type u} {β : Type v} (a : α) (f : α → β) : Option.map f (some a) = some (f a) := rfl
theorem z27 {α : Type u} {β : Type v} (f : α → β) : Option.map f none = none := rfl
theorem z28 {α : Type u} {i : Nat} : ([] : List α).zipIdx i = [] := rfl
theorem z29 {α : Type u} {a : α} {l : List α} {i : Nat} : (a :: l).zipIdx i = (a, i) :: l.zipIdx (i + 1) := rfl
theorem z30 {α : Type u} {f : α → Bool} : ([] : List α).all f = true := rfl
theorem z31 {α : Type u} {a : α} {l : List α} {f : α → Bool} : (a :: l).all f = (f a && l.all f) := rfl
theorem z32 {α : Type u} : ([] : List α).isEmpty = true := rfl
theorem z33 {α : Type u} {a : α} {l : List α} : (a :: l).isEmpty = false := rfl
theorem z34 {α : Type u} {a : α} {l m : List α} : a :: l ++ m = a :: (l ++ m) := rfl
theorem z35 {α : Type u} (l : List α) : [] ++ l = l := rfl
theorem z36 (p : Prop) : (True ∧ p) = p := true_and p
theorem z37 (p : Prop) : (p ∧ True) = p := and_true p
theorem z38 (α : Sort u) : (α → True) = True := implies_true α
theorem z39 : (false = true) = False := Bool.false_eq_true
theorem z40 : (true = false) = False := Bool.true_eq_false
theorem z41 {α : Type u} {a : α} {l : List α} : (a :: l).length = l.length + 1 := rfl
theorem z42 {α : Type u} {x y : Array α} : (x ++ y).toList = x.toList ++ y.toList := Array.toList_append
theorem z43 (b : Bool) : ((!b) = true) = (b = false) := Bool.not_eq_true' b
theorem z44 (b : Bool) : ((!b) = false) = (b = true) := Bool.not_eq_false' b
theorem z45 (c f : Bool) : (bif c then true else f) = (c || f) := Bool.cond_true_left c f
theorem z46 (c t : Bool) : (bif c then t else false) = (c && t) := Bool.cond_false_right c t
theorem z47 (c f : Bool) : (bif c then false else f) = (!c && f) := Bool.cond_false_left c f
theorem z48 (c t : Bool) : (bif c then t else true) = (!c || t) := Bool.cond_true_right c t
theorem z49 (p : Prop) : (p ∧ p) = p := and_self p
theorem z50 (b : Bool) : (!!b) = b := Bool.not_not b
theorem z51 : (¬True) = False := not_true_eq_false
theorem z52 : (¬False) = True := not_false_eq_true
theorem z53 (n : Nat) : (n : Int).toNat = n := rfl
theorem z54 : Int.toNat 0 = 0 := rfl
theorem z55 : Int.toNat 1 = 1 := rfl
theorem z56 {α : Type u} {l : List α} : l.take l.length = l := List.take_length
theorem z57 {α : Type u} {l : List α} : l.drop 0 = l := List.drop_zero
end Go.Proofs.Ytbcghiagomkadaa.Cal
