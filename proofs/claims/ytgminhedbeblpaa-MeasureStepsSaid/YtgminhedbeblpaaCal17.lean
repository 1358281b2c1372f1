/- What a call comes to: a function's contract over abstract values, and the step of its caller. -/
import Derived.Test.YtgminhedbeblpaaCal16
set_option linter.unusedVariables false
set_option linter.unusedSimpArgs false
namespace Go.Proofs.Ytgminhedbeblpaa.Cal
open Go

def ltK (κ : Nat) : Nat → Bool := fun k => Nat.blt k κ
def mkL : List AV → AV
  | [] => .nil
  | h :: t => .cons h (mkL t)
def lsOf : AV → List AV
  | .cons h t => h :: lsOf t
  | _ => []
def rsOf (l : List (Nat × Blk)) : Rs := fun k => lkr (l.map fun p => (p.1, some p.2)) k

/-- What a call of f comes to: from arguments and resources that fit, it returns a value and resources as Q says. Its keys are those below κ. -/
def FCall (P : Program) (f : Nat) (κ : Nat) (args : List AV) (rin : Rs) (Q : AV → (Nat → Bool) → Rs → Prop) : Prop :=
  ∀ (K Z : Nat → Prop) (ν : Nat → Value) (w : World) (vals : Array Value), (∀ k, (ν k).oneCell' = true) → R Z w (mkL args) ν true vals.toList → men (ltK κ) (mkL args) = true → GoodRs K Z w ν (ltK κ) rin → (∀ b, Z b → K b) → (∀ b, K b → b < w.heap.size) →
    Calls P f vals w fun e w' => ∃ (y : Value) (Z' : Nat → Prop) (ν' : Nat → Value) (v : AV) (μ' : Nat → Bool) (rs' : Rs), e = .returned y ∧ Step K Z w Z' w' ∧ (∀ k, (ν' k).oneCell' = true) ∧ (∀ k, k < κ → ν' k = ν k) ∧ (∀ k, k < κ → μ' k = true) ∧
      R Z' w' v ν' true [y] ∧ men μ' v = true ∧ GoodRs (un K Z') Z' w' ν' μ' rs' ∧ (∀ b, Z' b → b < w'.heap.size) ∧ Q v μ' rs'

structure SR where
  ob : Prop
  val : AV
  wr : Option Blk
abbrev Spec := List AV → Option SR

def Plain (P : Program) (f : Nat) : Prop := ∃ fn, P.funcs[f]? = some fn ∧ (fn.name == "runtime.NumGoroutine") = false ∧ fn.body.isNone = false

/-- It names no key. -/
def freeP : Blk → Prop
  | .avs _ n f => ∀ j, j < n → men noK (f j) = true
  | _ => True

/-- A function's contract, as a table of what its arguments give. -/
def FSpec (P : Program) (f : Nat) (S : Spec) : Prop :=
  Plain P f ∧ ∀ args r, S args = some r → r.ob → men noK (mkL args) = true → FCall P f 0 args (fun _ => none) fun v μ rs => v = r.val ∧ ∀ B, r.wr = some B → μ 0 = true ∧ rs 0 = some B ∧ freeP B

/-! ### What is lent to a call -/
/-- It does not lean on memory that nobody writes. -/
def zfree : AV → Bool
  | .roI _ => false
  | .roB _ => false
  | .roII _ => false
  | .ro _ _ _ => false
  | .rop _ => false
  | .agg l => zfree l
  | .tup l => zfree l
  | .cons h t => zfree h && zfree t
  | .fn _ c => zfree c
  | .whn _ u => zfree u
  | _ => true
def zfreeB : Blk → Bool
  | .ints _ => true
  | .bools _ => true
  | .rows _ => true
  | _ => false
def freeB : Blk → Bool
  | .ints _ => true
  | .bools _ => true
  | .rows _ => true
  | .rowsR _ => true
  | .avs _ _ _ => true
  | _ => false

theorem R_zfree {Z Z' : Nat → Prop} {w : World} : ∀ {u : AV} {ν : Nat → Value} {m : Bool} {cs : List Value}, zfree u = true → R Z w u ν m cs → R Z' w u ν m cs := by
  intro u
  induction u with
  | agg l ih => intro ν m cs hz h; cases m with
    | true => obtain ⟨es, e, r⟩ := h; exact ⟨es, e, ih hz r⟩
    | false => exact ih (m := true) hz h
  | tup l ih => intro ν m cs hz h; obtain ⟨es, e, r⟩ := h; exact ⟨es, e, ih hz r⟩
  | cons a b ih1 ih2 => intro ν m cs hz h; simp only [zfree, Bool.and_eq_true] at hz; obtain ⟨v, vs, e, r1, r2⟩ := h; exact ⟨v, vs, e, ih1 hz.1 r1, ih2 hz.2 r2⟩
  | fn f c ih => intro ν m cs hz h; obtain ⟨vs, e, r⟩ := h; exact ⟨vs, e, ih hz r⟩
  | whn g u ih => intro ν m cs hz h; exact ⟨fun hg => ih hz (h.1 hg), h.2⟩
  | roI _ => intro ν m cs hz; cases hz
  | roB _ => intro ν m cs hz; cases hz
  | roII _ => intro ν m cs hz; cases hz
  | ro _ _ _ _ => intro ν m cs hz; cases hz
  | rop _ _ => intro ν m cs hz; cases hz
  | _ => intro ν m cs hz h; exact h

theorem sat_zfree {Z Z' : Nat → Prop} {w : World} {ν : Nat → Value} {x : Value} {F : Nat → Prop} {B : Blk} (hz : zfreeB B = true) (h : sat Z w ν x F B) : sat Z' w ν x F B := by
  cases B <;> first | exact h | cases hz

def anyL : Nat → AV
  | 0 => .nil
  | n + 1 => .cons .any (anyL n)
/-- A thing that names no key, or nothing said of it. -/
def gua (sz : Nat) (u : AV) : AV := match men noK u with | true => u | false => .agg (anyL sz)
theorem anyL_ok {Z : Nat → Prop} {w : World} {ν : Nat → Value} : ∀ {n : Nat} {cs : List Value}, cs.length = n → R Z w (anyL n) ν true cs ∧ men noK (anyL n) = true
  | 0, [], _ => ⟨rfl, rfl⟩
  | n + 1, v :: vs, h => by
    obtain ⟨h1, h2⟩ := anyL_ok (Z := Z) (w := w) (ν := ν) (n := n) (cs := vs) (by simpa using h)
    exact ⟨⟨v, vs, rfl, ⟨v, rfl⟩, h1⟩, by show (men noK .any && men noK (anyL n)) = true; rw [h2]; rfl⟩
theorem gua_ok {Z Zc : Nat → Prop} (hZ : ∀ b, Z b → Zc b) {w : World} {ν : Nat → Value} {sz : Nat} {u : AV} {cs : List Value} (hl : cs.length = sz) (h : R Z w u ν false cs) : men noK (gua sz u) = true ∧ R Zc w (gua sz u) nu0 false cs := by
  unfold gua
  cases hm : men noK u with
  | true => exact ⟨hm, R_free hm (R_mono hZ (fun _ _ => rfl) h)⟩
  | false => exact ⟨(anyL_ok (Z := Zc) (w := w) (ν := nu0) hl).2, (anyL_ok hl).1⟩

/-- An argument as its callee sees it: a slice of the caller's own is lent. -/
def viewA (l : List (Nat × Option Blk)) : AV → Option (AV × List (Nat × Blk))
  | .own k => match lkr l k with
    | some (.ints xs) => some (.roI xs, [(k, .ints xs)])
    | some (.bools xs) => some (.roB xs, [(k, .bools xs)])
    | some (.rowsR xs) => some (.roII xs, [(k, .rowsR xs)])
    | some (.avs sz n f) => some (.ro sz n (fun j => gua sz (f j)), [(k, .avs sz n f)])
    | _ => none
  | .agg a => match viewA l a with
    | some (a', rd) => some (.agg a', rd)
    | none => none
  | .cons a b => match viewA l a with
    | some (a', rd) => match viewA l b with
      | some (b', rd') => some (.cons a' b', rd ++ rd')
      | none => none
    | none => none
  | .nil => some (.nil, [])
  | u => if men noK u then some (u, []) else none

theorem row_ro {Z : Nat → Prop} {w : World} {x : Value} {sz n : Nat} {g : Nat → List Value → Prop} {F : Nat → Prop} (h : row w x sz n g F) (hF : ∀ y, F y → Z y) : roRow Z w sz n g [x] := by
  rcases h with ⟨h0, h1, _⟩ | ⟨b, o, cap, cells, T, hx, h1, h2, hh, _, hFb, hc⟩
  · subst h1; exact ⟨none, 0, by rw [h0], Nat.le_refl _, Nat.zero_le _, fun h => absurd h (Nat.lt_irrefl 0)⟩
  · exact ⟨_, cap, by rw [hx], h1, h2, fun hn => ⟨b, o, rfl, hF b ((hFb b).2 rfl), fun j hj => by
      obtain ⟨es, e1, e2, e3⟩ := hc j hj
      exact ⟨es, e1, e2, fun i c hi => cell_heap hh (e3 i c hi)⟩⟩⟩

theorem view_ok {l : List (Nat × Option Blk)} {Z Zc : Nat → Prop} {w : World} {ν : Nat → Value} {rs : Rs} {Ft : Nat → Nat → Prop} (hZ : ∀ b, Z b → Zc b) (hs : ∀ k b, rs k = some b → sat Z w ν (ν k) (Ft k) b) :
    ∀ {u u' : AV} {rd : List (Nat × Blk)} {m : Bool} {cs : List Value}, viewA l u = some (u', rd) → (∀ p, p ∈ rd → rs p.1 = some p.2) → (∀ p, p ∈ rd → ∀ y, Ft p.1 y → Zc y) → R Z w u ν m cs → R Zc w u' nu0 m cs ∧ men noK u' = true ∧ RdIn l rd := by
  intro u
  have plain : ∀ {u u' : AV} {rd : List (Nat × Blk)} {m : Bool} {cs : List Value}, (if men noK u then some (u, []) else none) = some (u', rd) → R Z w u ν m cs → R Zc w u' nu0 m cs ∧ men noK u' = true ∧ RdIn l rd := by
    intro u u' rd m cs h hr
    split at h
    · rename_i hm
      simp only [Option.some.injEq, Prod.mk.injEq] at h
      obtain ⟨rfl, rfl⟩ := h
      exact ⟨R_free hm (R_mono hZ (fun _ _ => rfl) hr), hm, rdin_nil⟩
    · cases h
  induction u with
  | own k =>
    intro u' rd m cs h hrd hF hr
    rw [show cs = [ν k] from hr]
    unfold viewA at h
    split at h
    · rename_i xs hk
      simp only [Option.some.injEq, Prod.mk.injEq] at h
      obtain ⟨rfl, rfl⟩ := h
      exact ⟨row_ro (g := intAt xs) (hs k _ (hrd (k, .ints xs) (by simp))) (hF (k, .ints xs) (by simp)), rfl, rdin_one hk⟩
    · rename_i xs hk
      simp only [Option.some.injEq, Prod.mk.injEq] at h
      obtain ⟨rfl, rfl⟩ := h
      exact ⟨row_ro (g := boolAt xs) (hs k _ (hrd (k, .bools xs) (by simp))) (hF (k, .bools xs) (by simp)), rfl, rdin_one hk⟩
    · rename_i xs hk
      simp only [Option.some.injEq, Prod.mk.injEq] at h
      obtain ⟨rfl, rfl⟩ := h
      exact ⟨roRow_mono (fun _ h => h) (fun _ _ => rfl) (fun _ _ _ h => roRow_mono hZ (fun _ _ => rfl) (fun _ _ _ h => h) h) (row_ro (hs k _ (hrd (k, .rowsR xs) (by simp))) (hF (k, .rowsR xs) (by simp))), rfl, rdin_one hk⟩
    · rename_i sz n f hk
      simp only [Option.some.injEq, Prod.mk.injEq] at h
      obtain ⟨rfl, rfl⟩ := h
      obtain ⟨A, cap, e0, c1, c2, c3⟩ := row_ro (hs k _ (hrd (k, .avs sz n f) (by simp))) (hF (k, .avs sz n f) (by simp))
      refine ⟨⟨A, cap, e0, c1, c2, fun hn => ?_⟩, rfl, rdin_one hk⟩
      obtain ⟨b, o, e1, e2, e3⟩ := c3 hn
      exact ⟨b, o, e1, e2, fun j hj => by
        obtain ⟨es, f1, f2, f3⟩ := e3 j hj
        exact ⟨es, gua_ok hZ f2 f1, f2, f3⟩⟩
    · cases h
  | agg a ih =>
    intro u' rd m cs h hrd hF hr
    simp only [viewA] at h
    split at h
    · rename_i a' rd' ha
      simp only [Option.some.injEq, Prod.mk.injEq] at h
      obtain ⟨rfl, rfl⟩ := h
      cases m with
      | true => obtain ⟨es, e, r⟩ := hr; obtain ⟨r1, r2, r3⟩ := ih ha hrd hF r; exact ⟨⟨es, e, r1⟩, r2, r3⟩
      | false => obtain ⟨r1, r2, r3⟩ := ih (m := true) ha hrd hF hr; exact ⟨r1, r2, r3⟩
    · cases h
  | cons a b ih1 ih2 =>
    intro u' rd m cs h hrd hF hr
    simp only [viewA] at h
    split at h
    · rename_i a' rd1 ha
      split at h
      · rename_i b' rd2 hb
        simp only [Option.some.injEq, Prod.mk.injEq] at h
        obtain ⟨rfl, rfl⟩ := h
        obtain ⟨v, vs, e, r1, r2⟩ := hr
        obtain ⟨p1, p2, p3⟩ := ih1 ha (fun p hp => hrd p (List.mem_append_left _ hp)) (fun p hp => hF p (List.mem_append_left _ hp)) r1
        obtain ⟨q1, q2, q3⟩ := ih2 hb (fun p hp => hrd p (List.mem_append_right _ hp)) (fun p hp => hF p (List.mem_append_right _ hp)) r2
        refine ⟨⟨v, vs, e, p1, q1⟩, by simp only [men, p2, q2]; rfl, fun p hp => ?_⟩
        rcases List.mem_append.1 hp with h | h
        · exact p3 p h
        · exact q3 p h
      · cases h
    · cases h
  | nil =>
    intro u' rd m cs h hrd hF hr
    simp only [viewA, Option.some.injEq, Prod.mk.injEq] at h
    obtain ⟨rfl, rfl⟩ := h
    exact ⟨hr, rfl, rdin_nil⟩
  | _ => intro u' rd m cs h hrd hF hr; exact plain h hr

theorem view_rd {l : List (Nat × Option Blk)} : ∀ {u u' : AV} {rd : List (Nat × Blk)}, viewA l u = some (u', rd) → RdIn l rd := by
  intro u
  induction u with
  | own k =>
    intro u' rd h
    unfold viewA at h
    (repeat' split at h) <;> first | (cases h; done) | (simp only [Option.some.injEq, Prod.mk.injEq] at h; obtain ⟨_, rfl⟩ := h; exact rdin_one (by assumption))
  | agg a ih =>
    intro u' rd h
    simp only [viewA] at h
    split at h
    · rename_i a' rd' ha
      simp only [Option.some.injEq, Prod.mk.injEq] at h; obtain ⟨_, rfl⟩ := h; exact ih ha
    · cases h
  | cons a b ih1 ih2 =>
    intro u' rd h
    simp only [viewA] at h
    split at h
    · rename_i a' rd1 ha
      split at h
      · rename_i b' rd2 hb
        simp only [Option.some.injEq, Prod.mk.injEq] at h
        obtain ⟨_, rfl⟩ := h
        intro p hp
        rcases List.mem_append.1 hp with h | h
        · exact ih1 ha p h
        · exact ih2 hb p h
      · cases h
    · cases h
  | nil => intro u' rd h; simp only [viewA, Option.some.injEq, Prod.mk.injEq] at h; obtain ⟨_, rfl⟩ := h; exact rdin_nil
  | _ => intro u' rd h; simp only [viewA] at h; split at h
         · simp only [Option.some.injEq, Prod.mk.injEq] at h; obtain ⟨_, rfl⟩ := h; exact rdin_nil
         · cases h

def isOne : Nat → Bool := fun k => Nat.beq k 0

/-- The answer of a contract, in its caller's keys. -/
def ofSR (kn : Nat) (rd : List (Nat × Blk)) (r : SR) : Option EvR :=
  match r.wr with
  | none => if men noK r.val && (rd.isEmpty || zfree r.val) then some ⟨r.val, rd, [], none, r.ob⟩ else none
  | some B => if men isOne r.val && freeB B && (rd.isEmpty || (zfree r.val && zfreeB B)) then some ⟨ren (fun _ => kn) r.val, rd, [(kn, some B)], some kn, r.ob⟩ else none

theorem ff_calls {P : Program} {ro : Option Nat} {n f : Nat} {args : Array Value} {w : World} {R : Ending → World → Prop} (h : Calls P f args w R) : CallsIn (FF ro) n P f args w R :=
  ⟨trivial, (callsIn_wide (n := n).2 h).2⟩

theorem mkL_lsOf : ∀ {u : AV}, properL u = true → mkL (lsOf u) = u := by
  intro u
  induction u with
  | cons a b _ ih => intro h; simp only [lsOf, mkL]; rw [ih h]
  | nil => intro _; rfl
  | _ => intro h; cases h

section
variable {P : Program} {ro : Option Nat} {N : Nat} {ops : Array Oper}

theorem Good.setd {K Z : Nat → Prop} {w : World} {ν : Nat → Value} {σ : St} {a : Act} {o : Option Nat} {v : AV} {y : Value} (hg : Good K Z N w ν σ a) (ho : ∀ d, o = some d → d < N) (hr : R Z w v ν true [y]) (hm : men σ.mu v = true) :
    Good K Z N w ν { σ with env := putO σ.env o v } (a.put o y) := by
  cases o with
  | none => exact hg
  | some d =>
    have hd := ho d rfl
    refine ⟨by simp [Act.put, hg.size], hg.one, fun s => ?_, hg.rs, hg.zk, hg.kl, hg.ds, hg.ml⟩
    by_cases hs : s = d
    · subst hs
      show men σ.mu (put σ.env s v s) = true ∧ R Z w (put σ.env s v s) ν true [_]
      rw [put_eq]
      have : (a.tmps.setIfInBounds s y).getD s undef = y := by
        simp [Array.getD_eq_getD_getElem?, hg.size, hd]
      exact ⟨hm, by show R Z w v ν true [(a.tmps.setIfInBounds s y).getD s undef]; rw [this]; exact hr⟩
    · show men σ.mu (put σ.env d v s) = true ∧ R Z w (put σ.env d v s) ν true [_]
      rw [put_ne hs]
      have : (a.tmps.setIfInBounds d y).getD s undef = a.tmps.getD s undef := by
        simp [Array.getD_eq_getD_getElem?, Array.getElem?_setIfInBounds, Ne.symm hs]
      exact ⟨(hg.env s).1, by show R Z w (σ.env s) ν true [(a.tmps.setIfInBounds d y).getD s undef]; rw [this]; exact (hg.env s).2⟩

/-- The state after an operation, whatever its world is. -/
theorem Good.next {K Z : Nat → Prop} {w : World} {ν : Nat → Value} {σ : St} {a : Act} (hg : Good K Z N w ν σ a) {it : Item} (hf : Fits N it σ) {Z' : Nat → Prop} {w' : World} {ν' : Nat → Value} {y : Value} (hs : Step K Z w Z' w') (hν : ∀ k, σ.mu k = true → ν' k = ν k) (h1 : ∀ k, (ν' k).oneCell' = true)
    (hrs : GoodRs (un K Z') Z' w' ν' (addK σ.mu it.kn) (updL σ.rs it.wr)) (hr : R Z' w' it.val ν' true [y]) (hm : men (addK σ.mu it.kn) it.val = true) (hz : ∀ b, Z' b → b < w'.heap.size) : Good (un K Z') Z' N w' ν' (it.app σ) (a.put it.dst y) := by
  have hgood : Good (un K Z') Z' N w' ν' { mu := addK σ.mu it.kn, env := σ.env, rs := updL σ.rs it.wr, ms := σ.ms } a := by
    refine ⟨hg.size, h1, fun s => ⟨men_le addK_le (hg.env s).1, R_nu hν (hg.env s).1 (R_mono hs.le (fun b hb => hs.ext.block b (hg.zk b hb)) (hg.env s).2)⟩, hrs, fun b hb => .inr hb, fun b hb => ?_, ?_, fun k hk => addK_le k (hg.ml k hk)⟩
    · rcases hb with h | h
      · exact Nat.lt_of_lt_of_le (hg.kl b h) hs.ext.size
      · exact hz b h
    · rw [hg.ds]
      exact List.map_congr_left fun k hk => by rw [hν k (hg.ml k hk)]
  exact Good.setd hgood hf.dst hr hm

theorem semAt_plain {o : Oper} (h : ∀ c, o.op ≠ .defer c) (ev : Operand → Value) : o.semAt (FF ro).round ev = execOp ev o := Oper.semAt_eq _ _ _ h

end

end Go.Proofs.Ytgminhedbeblpaa.Cal
