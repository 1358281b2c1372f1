/- The abstract values of a small calculus over the model's walk: what a temporary or a variable holds, said without addresses; how they are read off a world. -/
import Derived.WalkKit
import Derived.KernelRfl
import Derived.RangeFuncNested
import Derived.RangeFuncRecord
import Derived.RangeFuncCalls
set_option linter.unusedVariables false
set_option linter.unusedSimpArgs false
namespace Go.Proofs.Ytgminhedbeblpaa.Cal
open Go

/-- No slice of the calculus is longer. -/
def lim : Nat := 140737488355328

inductive AV where
  | any
  | int (k : IntKind) (n : Int)
  | bool (b : Bool)
  | cst (v : Value)
  | own (k : Nat)
  | adr (k sz i o : Nat)
  | roI (xs : List Int)
  | roB (xs : List Bool)
  | roII (xss : List (List Int))
  | ro (sz n : Nat) (f : Nat → AV)
  | rop (u : AV)
  | agg (l : AV)
  | tup (l : AV)
  | nil
  | cons (h t : AV)
  | fn (f : Nat) (caps : AV)
  | yld (k : Nat)
  | whn (g : Bool) (u : AV)

/-- Where what a value names begins. -/
def baseOf : Value → Option (Nat × Nat)
  | .slice (some ⟨b, o, none⟩) _ _ => some (b, o)
  | .pointer (some ⟨b, o, none⟩) => some (b, o)
  | _ => none

def nu0 : Nat → Value := fun _ => .nilFunc
def noK : Nat → Bool := fun _ => false

/-- Which keys it names: all of μ. -/
def men (μ : Nat → Bool) : AV → Bool
  | .own k => μ k
  | .adr k _ _ _ => μ k
  | .agg l => men μ l
  | .tup l => men μ l
  | .cons h t => men μ h && men μ t
  | .fn _ c => men μ c
  | .yld k => μ k
  | .whn g u => !g || men μ u
  | _ => true

/-- A slice of n elements of sz cells that nobody writes; g says of each element which cells. -/
def roRow (Z : Nat → Prop) (w : World) (sz n : Nat) (g : Nat → List Value → Prop) (cs : List Value) : Prop :=
  ∃ A cap, cs = [.slice A n cap] ∧ n ≤ cap ∧ n ≤ lim ∧
    (0 < n → ∃ b o, A = some ⟨b, o, none⟩ ∧ Z b ∧ ∀ j, j < n → ∃ es, g j es ∧ es.length = sz ∧ ∀ (i : Nat) c, es[i]? = some c → w.cell? ⟨b, o + (j * sz + i), none⟩ = some c)

def intAt (xs : List Int) (j : Nat) (es : List Value) : Prop := es = [.int .i64 (xs.getD j 0)]
def boolAt (xs : List Bool) (j : Nat) (es : List Value) : Prop := es = [.bool (xs.getD j false)]

/-- 'av' says of the values 'cs': true: as values (one, or a list's); false: as the cells of a variable. -/
def R (Z : Nat → Prop) (w : World) : AV → (Nat → Value) → Bool → List Value → Prop
  | .any, _, _, cs => ∃ v, cs = [v]
  | .int k n, _, _, cs => cs = [.int k n]
  | .bool b, _, _, cs => cs = [.bool b]
  | .cst v, _, _, cs => cs = [v]
  | .own k, ν, _, cs => cs = [ν k]
  | .adr k sz i o, ν, _, cs => ∃ b f, baseOf (ν k) = some (b, f) ∧ cs = [.pointer (some ⟨b, f + (i * sz + o), none⟩)]
  | .roI xs, _, _, cs => roRow Z w 1 xs.length (intAt xs) cs
  | .roB xs, _, _, cs => roRow Z w 1 xs.length (boolAt xs) cs
  | .roII xss, _, _, cs => roRow Z w 1 xss.length (fun j es => roRow Z w 1 (xss.getD j []).length (intAt (xss.getD j [])) es) cs
  | .ro sz n f, _, _, cs => roRow Z w sz n (fun j es => men noK (f j) = true ∧ R Z w (f j) nu0 false es) cs
  | .rop u, _, _, cs => ∃ b o, cs = [.pointer (some ⟨b, o, none⟩)] ∧ Z b ∧ men noK u = true ∧ ∃ es, R Z w u nu0 false es ∧ ∀ (i : Nat) c, es[i]? = some c → w.cell? ⟨b, o + i, none⟩ = some c
  | .agg l, ν, true, cs => ∃ es, cs = [.agg es.toArray] ∧ R Z w l ν true es
  | .agg l, ν, false, cs => R Z w l ν true cs
  | .tup l, ν, _, cs => ∃ es, cs = [.tuple es.toArray] ∧ R Z w l ν true es
  | .nil, _, _, cs => cs = []
  | .cons h t, ν, _, cs => ∃ v vs, cs = v :: vs ∧ R Z w h ν true [v] ∧ R Z w t ν true vs
  | .fn f caps, ν, _, cs => ∃ vs, cs = [.func (.func f) #[] vs.toArray] ∧ R Z w caps ν true vs
  | .yld k, ν, _, cs => ∃ l, ν k = .map (some l) ∧ cs = [.func (.yield l) #[] #[]]
  | .whn g u, ν, _, cs => (g = true → R Z w u ν true cs) ∧ (g = false → cs = [undef])

theorem roRow_mono {Z Z' : Nat → Prop} {w w' : World} {sz n : Nat} {g g' : Nat → List Value → Prop} {cs : List Value} (hZ : ∀ b, Z b → Z' b) (hw : ∀ b, Z b → w'.heap[b]? = w.heap[b]?)
    (hg : ∀ j es, j < n → g j es → g' j es) (h : roRow Z w sz n g cs) : roRow Z' w' sz n g' cs := by
  obtain ⟨A, cap, e, h1, h2, h3⟩ := h
  refine ⟨A, cap, e, h1, h2, fun hn => ?_⟩
  obtain ⟨b, o, eA, hz, hj⟩ := h3 hn
  refine ⟨b, o, eA, hZ b hz, fun j hjn => ?_⟩
  obtain ⟨es, r, hl, hc⟩ := hj j hjn
  exact ⟨es, hg j es hjn r, hl, fun i c hi => (World.cell?_of_block (w := w) (hw b hz)).trans (hc i c hi)⟩

theorem R_mono {Z Z' : Nat → Prop} {w w' : World} (hZ : ∀ b, Z b → Z' b) (hw : ∀ b, Z b → w'.heap[b]? = w.heap[b]?) :
    ∀ {av : AV} {ν : Nat → Value} {m : Bool} {cs : List Value}, R Z w av ν m cs → R Z' w' av ν m cs := by
  intro av
  induction av with
  | roI xs => intro ν m cs h; exact roRow_mono hZ hw (fun _ _ _ h => h) h
  | roB xs => intro ν m cs h; exact roRow_mono hZ hw (fun _ _ _ h => h) h
  | roII xss => intro ν m cs h; exact roRow_mono hZ hw (fun _ _ _ h => roRow_mono hZ hw (fun _ _ _ h => h) h) h
  | ro sz n f ih => intro ν m cs h; exact roRow_mono hZ hw (fun j _ _ h => ⟨h.1, ih j h.2⟩) h
  | rop u ih =>
    intro ν m cs h
    obtain ⟨b, o, e, hz, hm, es, r, hc⟩ := h
    exact ⟨b, o, e, hZ b hz, hm, es, ih r, fun i c hi => (World.cell?_of_block (w := w) (hw b hz)).trans (hc i c hi)⟩
  | agg l ih =>
    intro ν m cs h
    cases m with
    | true => obtain ⟨es, e, r⟩ := h; exact ⟨es, e, ih r⟩
    | false => exact ih (m := true) h
  | tup l ih => intro ν m cs h; obtain ⟨es, e, r⟩ := h; exact ⟨es, e, ih r⟩
  | cons h t ih1 ih2 => intro ν m cs hh; obtain ⟨v, vs, e, r1, r2⟩ := hh; exact ⟨v, vs, e, ih1 r1, ih2 r2⟩
  | fn f c ih => intro ν m cs h; obtain ⟨vs, e, r⟩ := h; exact ⟨vs, e, ih r⟩
  | whn g u ih => intro ν m cs h; exact ⟨fun hg => ih (h.1 hg), h.2⟩
  | _ => intro ν m cs h; exact h

theorem R_nu {Z : Nat → Prop} {w : World} {μ : Nat → Bool} {ν ν' : Nat → Value} (hν : ∀ k, μ k = true → ν' k = ν k) :
    ∀ {av : AV} {m : Bool} {cs : List Value}, men μ av = true → R Z w av ν m cs → R Z w av ν' m cs := by
  intro av
  induction av with
  | own k => intro m cs hm h; show cs = [ν' k]; rw [hν k hm]; exact h
  | adr k sz i o => intro m cs hm h; show ∃ b f, baseOf (ν' k) = some (b, f) ∧ _; rw [hν k hm]; exact h
  | yld k => intro m cs hm h; show ∃ l, ν' k = .map (some l) ∧ _; rw [hν k hm]; exact h
  | agg l ih =>
    intro m cs hm h
    cases m with
    | true => obtain ⟨es, e, r⟩ := h; exact ⟨es, e, ih hm r⟩
    | false => exact ih (m := true) hm h
  | tup l ih => intro m cs hm h; obtain ⟨es, e, r⟩ := h; exact ⟨es, e, ih hm r⟩
  | cons h t ih1 ih2 =>
    intro m cs hm hh
    simp only [men, Bool.and_eq_true] at hm
    obtain ⟨v, vs, e, r1, r2⟩ := hh
    exact ⟨v, vs, e, ih1 hm.1 r1, ih2 hm.2 r2⟩
  | fn f c ih => intro m cs hm h; obtain ⟨vs, e, r⟩ := h; exact ⟨vs, e, ih hm r⟩
  | whn g u ih => intro m cs hm h; exact ⟨fun hg => ih (by subst hg; exact hm) (h.1 hg), h.2⟩
  | _ => intro m cs hm h; exact h

theorem men_le {μ μ' : Nat → Bool} (hle : ∀ k, μ k = true → μ' k = true) : ∀ {av : AV}, men μ av = true → men μ' av = true := by
  intro av
  induction av with
  | own k => intro h; exact hle _ h
  | adr k _ _ _ => intro h; exact hle _ h
  | yld k => intro h; exact hle _ h
  | agg l ih => exact ih
  | tup l ih => exact ih
  | fn f c ih => exact ih
  | whn g u ih => intro h; cases g with
    | true => exact ih h
    | false => rfl
  | cons h t ih1 ih2 => intro hh; simp only [men, Bool.and_eq_true] at *; exact ⟨ih1 hh.1, ih2 hh.2⟩
  | _ => intro h; rfl

theorem R_free {Z : Nat → Prop} {w : World} {ν ν' : Nat → Value} {av : AV} {m : Bool} {cs : List Value} (hm : men noK av = true) (h : R Z w av ν m cs) : R Z w av ν' m cs := R_nu (μ := noK) (fun _ h => by cases h) hm h
theorem men_free {μ : Nat → Bool} {av : AV} (hm : men noK av = true) : men μ av = true := men_le (fun _ h => by cases h) hm

/-- Renaming of keys. -/
def ren (ρ : Nat → Nat) : AV → AV
  | .own k => .own (ρ k)
  | .adr k sz i o => .adr (ρ k) sz i o
  | .agg l => .agg (ren ρ l)
  | .tup l => .tup (ren ρ l)
  | .cons h t => .cons (ren ρ h) (ren ρ t)
  | .fn f c => .fn f (ren ρ c)
  | .yld k => .yld (ρ k)
  | .whn g u => .whn g (ren ρ u)
  | x => x

theorem R_ren {Z : Nat → Prop} {w : World} {ρ : Nat → Nat} {ν : Nat → Value} :
    ∀ {av : AV} {m : Bool} {cs : List Value}, R Z w (ren ρ av) ν m cs ↔ R Z w av (fun k => ν (ρ k)) m cs := by
  intro av
  induction av with
  | agg l ih => intro m cs; cases m <;> simp only [ren, R, ih]
  | tup l ih => intro m cs; simp only [ren, R, ih]
  | cons h t ih1 ih2 => intro m cs; simp only [ren, R, ih1, ih2]
  | fn f c ih => intro m cs; simp only [ren, R, ih]
  | whn g u ih => intro m cs; simp only [ren, R, ih]
  | _ => intro m cs; exact Iff.rfl

end Go.Proofs.Ytgminhedbeblpaa.Cal
