/- Resources: the memory that a call owns, kept under keys; when a state of the calculus fits a world; what a code and a call come to, said over such states. -/
import Derived.Test.YtgminhedbeblpaaCal1
set_option linter.unusedVariables false
set_option linter.unusedSimpArgs false
namespace Go.Proofs.Ytgminhedbeblpaa.Cal
open Go

inductive Blk where
  | ints (xs : List Int)
  | bools (xs : List Bool)
  | avs (sz n : Nat) (f : Nat → AV)
  | box (u : AV)
  | rowsR (xss : List (List Int))
  | rows (xss : List (List Int))
  | rowsH (xss : List (List Int)) (i k : Nat)
  | mp (es : List (Int × Int × Nat)) (c : Nat)
  | dfr
  | sem (ks : List Nat) (A : List Value → (Nat → Prop) → World → (Nat → Prop) → Prop)

/-- A slice of n elements of sz cells each; g says of each element which cells. -/
def row (w : World) (x : Value) (sz n : Nat) (g : Nat → List Value → Prop) (F : Nat → Prop) : Prop :=
  (x = .slice none 0 0 ∧ n = 0 ∧ ∀ y, ¬ F y) ∨
  ∃ b o cap cells T, x = .slice (some ⟨b, o, none⟩) n cap ∧ n ≤ cap ∧ n ≤ lim ∧ w.heap[b]? = some (.cells cells T (0, 0)) ∧ o + cap * sz ≤ cells.size ∧ (∀ y, F y ↔ y = b) ∧
    ∀ j, j < n → ∃ es, g j es ∧ es.length = sz ∧ ∀ (i : Nat) c, es[i]? = some c → cells[o + (j * sz + i)]? = some c

/-- Those rows of a slice of rows that 'c' lets through: each owned, apart from the others and from what holds them. -/
def rowsAt (w : World) (ys : Nat → Value) (G : Nat → Nat → Prop) (F0 : Nat → Prop) (xss : List (List Int)) (c : Nat → Prop) : Prop :=
  ∀ j, j < xss.length → c j → row w (ys j) 1 (xss.getD j []).length (intAt (xss.getD j [])) (G j) ∧ (ys j).oneCell' = true ∧ (∀ y, G j y → ¬ F0 y) ∧ ∀ i, i < xss.length → c i → i ≠ j → ∀ y, G j y → ¬ G i y

/-- An entry of a map from numbers to numbers. -/
def ent (e : Int × Int × Nat) : MapEntry := ⟨.int .i64 e.1, .int .i64 e.2.1, e.2.2⟩

def sat (Z : Nat → Prop) (w : World) (ν : Nat → Value) (x : Value) (F : Nat → Prop) : Blk → Prop
  | .ints xs => row w x 1 xs.length (intAt xs) F
  | .bools xs => row w x 1 xs.length (boolAt xs) F
  | .avs sz n f => row w x sz n (fun j es => R Z w (f j) ν false es) F
  | .box u => ∃ b cells T, x = .pointer (some ⟨b, 0, none⟩) ∧ w.heap[b]? = some (.cells cells T (0, 0)) ∧ R Z w u ν false cells.toList ∧ ∀ y, F y ↔ y = b
  | .rowsR xss => row w x 1 xss.length (fun j es => R Z w (.roI (xss.getD j [])) ν false es) F
  | .rows xss => ∃ (ys : Nat → Value) (G : Nat → Nat → Prop) (F0 : Nat → Prop), row w x 1 xss.length (fun j es => es = [ys j]) F0 ∧ rowsAt w ys G F0 xss (fun _ => True) ∧ (∀ y, F y ↔ F0 y ∨ ∃ j, j < xss.length ∧ G j y)
  | .rowsH xss i k => ∃ (ys : Nat → Value) (G : Nat → Nat → Prop) (F0 : Nat → Prop), row w x 1 xss.length (fun j es => es = [ys j]) F0 ∧ rowsAt w ys G F0 xss (fun j => j ≠ i) ∧ ys i = ν k ∧ (∀ y, F y ↔ F0 y ∨ ∃ j, j < xss.length ∧ j ≠ i ∧ G j y)
  | .mp es c => ∃ b arr, x = .map (some b) ∧ w.heap[b]? = some (.map arr c) ∧ arr.toList = es.map ent ∧ ∀ y, F y ↔ y = b
  | .dfr => ∃ b, x = .map (some b) ∧ w.heap[b]? = some (.deferred (some [])) ∧ ∀ y, F y ↔ y = b
  | .sem ks A => ∀ (Z' : Nat → Prop) (w' : World), (∀ y, Z y → Z' y) → (∀ y, Z y ∨ F y → w'.heap[y]? = w.heap[y]?) → A (ks.map ν) Z' w' F

def menB (μ : Nat → Bool) : Blk → Prop
  | .avs _ n f => ∀ j, j < n → men μ (f j) = true
  | .box u => men μ u = true
  | .rowsH _ _ k => μ k = true
  | .sem ks _ => ∀ k, k ∈ ks → μ k = true
  | _ => True

def renB (ρ : Nat → Nat) : Blk → Blk
  | .avs sz n f => .avs sz n (fun j => ren ρ (f j))
  | .box u => .box (ren ρ u)
  | .rowsH xss i k => .rowsH xss i (ρ k)
  | .sem ks A => .sem (ks.map ρ) A
  | b => b

theorem row_mono {w w' : World} {x : Value} {sz n : Nat} {g g' : Nat → List Value → Prop} {F : Nat → Prop} (hw : ∀ b, F b → w'.heap[b]? = w.heap[b]?) (hg : ∀ j es, j < n → g j es → g' j es)
    (h : row w x sz n g F) : row w' x sz n g' F := by
  rcases h with h | ⟨b, o, cap, cells, T, hx, h1, h2, h3, h4, h5, h6⟩
  · exact .inl h
  · refine .inr ⟨b, o, cap, cells, T, hx, h1, h2, (hw b ((h5 b).2 rfl)).trans h3, h4, h5, fun j hj => ?_⟩
    obtain ⟨es, r, hl, hc⟩ := h6 j hj
    exact ⟨es, hg j es hj r, hl, hc⟩

theorem rowsAt_mono {w w' : World} {ys : Nat → Value} {G : Nat → Nat → Prop} {F0 : Nat → Prop} {xss : List (List Int)} {c : Nat → Prop} (hw : ∀ j, j < xss.length → c j → ∀ b, G j b → w'.heap[b]? = w.heap[b]?)
    (h : rowsAt w ys G F0 xss c) : rowsAt w' ys G F0 xss c := fun j hl hc => by
  obtain ⟨r, d⟩ := h j hl hc
  exact ⟨row_mono (hw j hl hc) (fun _ _ _ h => h) r, d⟩

theorem sat_mono {Z Z' : Nat → Prop} {w w' : World} {ν : Nat → Value} {x : Value} {F : Nat → Prop} {B : Blk} (hZ : ∀ b, Z b → Z' b) (hz : ∀ b, Z b → w'.heap[b]? = w.heap[b]?)
    (hw : ∀ b, F b → w'.heap[b]? = w.heap[b]?) (h : sat Z w ν x F B) : sat Z' w' ν x F B := by
  cases B with
  | ints xs => exact row_mono hw (fun _ _ _ h => h) h
  | bools xs => exact row_mono hw (fun _ _ _ h => h) h
  | avs sz n f => exact row_mono hw (fun _ _ _ h => R_mono hZ hz h) h
  | box u =>
    obtain ⟨b, cells, T, hx, hb, r, hF⟩ := h
    exact ⟨b, cells, T, hx, (hw b ((hF b).2 rfl)).trans hb, R_mono hZ hz r, hF⟩
  | rowsR xss => exact row_mono hw (fun _ _ _ h => R_mono hZ hz h) h
  | rows xss =>
    obtain ⟨ys, G, F0, h0, hj, hF⟩ := h
    exact ⟨ys, G, F0, row_mono (fun b hb => hw b ((hF b).2 (.inl hb))) (fun _ _ _ h => h) h0, rowsAt_mono (fun j hl _ b hb => hw b ((hF b).2 (.inr ⟨j, hl, hb⟩))) hj, hF⟩
  | rowsH xss i k =>
    obtain ⟨ys, G, F0, h0, hj, hk, hF⟩ := h
    exact ⟨ys, G, F0, row_mono (fun b hb => hw b ((hF b).2 (.inl hb))) (fun _ _ _ h => h) h0, rowsAt_mono (fun j hl hc b hb => hw b ((hF b).2 (.inr ⟨j, hl, hc, hb⟩))) hj, hk, hF⟩
  | mp es c => obtain ⟨b, arr, hx, hb, he, hF⟩ := h; exact ⟨b, arr, hx, (hw b ((hF b).2 rfl)).trans hb, he, hF⟩
  | dfr => obtain ⟨b, hx, hb, hF⟩ := h; exact ⟨b, hx, (hw b ((hF b).2 rfl)).trans hb, hF⟩
  | sem ks A =>
    exact fun Z2 w2 h1 h2 => h Z2 w2 (fun y hy => h1 y (hZ y hy)) (fun y hy => by
      rcases hy with hy | hy
      · exact (h2 y (.inl (hZ y hy))).trans (hz y hy)
      · exact (h2 y (.inr hy)).trans (hw y hy))

theorem getD_mem_or {α : Type} (xs : List α) (j : Nat) (d : α) (h : j < xs.length) : xs.getD j d ∈ xs := by
  simp [List.getD_eq_getElem?_getD, List.getElem?_eq_getElem h]

theorem sat_nu {Z : Nat → Prop} {w : World} {μ : Nat → Bool} {ν ν' : Nat → Value} {x : Value} {F : Nat → Prop} {B : Blk} (hν : ∀ k, μ k = true → ν' k = ν k) (hm : menB μ B) (h : sat Z w ν x F B) : sat Z w ν' x F B := by
  cases B with
  | avs sz n f => exact row_mono (fun _ _ => rfl) (fun j es hj h => R_nu hν (hm j hj) h) h
  | rowsH xss i k => obtain ⟨ys, G, F0, h0, hj, hk, hF⟩ := h; exact ⟨ys, G, F0, h0, hj, by rw [hν k hm]; exact hk, hF⟩
  | box u => obtain ⟨b, cells, T, hx, hb, r, hF⟩ := h; exact ⟨b, cells, T, hx, hb, R_nu hν hm r, hF⟩
  | sem ks A =>
    intro Z' w' h1 h2
    rw [List.map_congr_left (fun k hk => hν k (hm k hk))]
    exact h Z' w' h1 h2
  | _ => exact h

theorem sat_ren {Z : Nat → Prop} {w : World} {ρ : Nat → Nat} {ν : Nat → Value} {x : Value} {F : Nat → Prop} {B : Blk} : sat Z w ν x F (renB ρ B) ↔ sat Z w (fun k => ν (ρ k)) x F B := by
  cases B with
  | avs sz n f => simp only [renB, sat, R_ren]
  | box u => simp only [renB, sat, R_ren]
  | sem ks A => simp only [renB, sat, List.map_map]; exact Iff.rfl
  | _ => exact Iff.rfl

theorem menB_le {μ μ' : Nat → Bool} (hle : ∀ k, μ k = true → μ' k = true) {B : Blk} (h : menB μ B) : menB μ' B := by
  cases B with
  | avs sz n f => exact fun u hu => men_le hle (h u hu)
  | rowsH xss i k => exact hle k h
  | box u => exact men_le hle h
  | sem ks A => exact fun k hk => hle k (h k hk)
  | _ => exact trivial

abbrev Env := Nat → AV
abbrev Rs := Nat → Option Blk

/-- The resources of a state lie apart from each other and from what must be kept. -/
def GoodRs (K Z : Nat → Prop) (w : World) (ν : Nat → Value) (μ : Nat → Bool) (rs : Rs) : Prop :=
  ∃ Ft : Nat → Nat → Prop, ∀ k b, rs k = some b → μ k = true ∧ menB μ b ∧ sat Z w ν (ν k) (Ft k) b ∧ (∀ x, Ft k x → ¬ K x ∧ x < w.heap.size) ∧
    ∀ k' b', k ≠ k' → rs k' = some b' → ∀ x, Ft k x → ¬ Ft k' x

structure St where
  mu : Nat → Bool
  env : Env
  rs : Rs
  ms : List Nat

def markAt : Value → Nat
  | .map (some r) => r
  | _ => 0
def markOf (v : Value) : Deferred := { target := .collected (markAt v), args := #[] }

structure Good (K Z : Nat → Prop) (N : Nat) (w : World) (ν : Nat → Value) (σ : St) (a : Act) : Prop where
  size : a.tmps.size = N
  one : ∀ k, (ν k).oneCell' = true
  env : ∀ s, men σ.mu (σ.env s) = true ∧ R Z w (σ.env s) ν true [a.tmps.getD s undef]
  rs : GoodRs K Z w ν σ.mu σ.rs
  zk : ∀ b, Z b → K b
  kl : ∀ b, K b → b < w.heap.size
  ds : a.defers = σ.ms.map (fun k => markOf (ν k))
  ml : ∀ k, k ∈ σ.ms → σ.mu k = true

structure Ext (K : Nat → Prop) (w w' : World) : Prop where
  os : w'.os = w.os
  tape : w'.tape = w.tape
  output : w'.output = w.output
  size : w.heap.size ≤ w'.heap.size
  block : ∀ b, K b → w'.heap[b]? = w.heap[b]?

structure Step (K Z : Nat → Prop) (w : World) (Z' : Nat → Prop) (w' : World) : Prop where
  ext : Ext K w w'
  le : ∀ b, Z b → Z' b
  new : ∀ b, Z' b → Z b ∨ ¬ K b

def un (K Z : Nat → Prop) : Nat → Prop := fun b => K b ∨ Z b

theorem Ext.refl (K : Nat → Prop) (w : World) : Ext K w w := ⟨rfl, rfl, rfl, Nat.le_refl _, fun _ _ => rfl⟩
theorem Step.refl (K Z : Nat → Prop) (w : World) : Step K Z w Z w := ⟨Ext.refl K w, fun _ h => h, fun _ h => .inl h⟩
theorem Step.trans {K Z : Nat → Prop} {w : World} {Z1 : Nat → Prop} {w1 : World} {Z2 : Nat → Prop} {w2 : World} (h1 : Step K Z w Z1 w1) (h2 : Step (un K Z1) Z1 w1 Z2 w2) : Step K Z w Z2 w2 :=
  ⟨⟨h2.ext.os.trans h1.ext.os, h2.ext.tape.trans h1.ext.tape, h2.ext.output.trans h1.ext.output, Nat.le_trans h1.ext.size h2.ext.size, fun b hb => (h2.ext.block b (.inl hb)).trans (h1.ext.block b hb)⟩,
    fun b hb => h2.le b (h1.le b hb), fun b hb => by
      rcases h2.new b hb with h | h
      · exact h1.new b h
      · exact .inr fun hk => h (.inl hk)⟩

theorem GoodRs.mono {K K' Z Z' : Nat → Prop} {w w' : World} {ν : Nat → Value} {μ : Nat → Bool} {rs : Rs} (h : GoodRs K Z w ν μ rs) (hZ : ∀ b, Z b → Z' b) (hz : ∀ b, Z b → w'.heap[b]? = w.heap[b]?)
    (hs : w.heap.size ≤ w'.heap.size) (hK : ∀ b, K' b → K b ∨ w.heap.size ≤ b) (hw : ∀ b, ¬ K b → b < w.heap.size → w'.heap[b]? = w.heap[b]?) : GoodRs K' Z' w' ν μ rs := by
  obtain ⟨Ft, h⟩ := h
  refine ⟨Ft, fun k b hk => ?_⟩
  obtain ⟨h1, h2, h3, h4, h5⟩ := h k b hk
  refine ⟨h1, h2, sat_mono hZ hz (fun x hx => hw x (h4 x hx).1 (h4 x hx).2) h3, fun x hx => ⟨fun hK' => ?_, Nat.lt_of_lt_of_le (h4 x hx).2 hs⟩, h5⟩
  rcases hK x hK' with h | h
  · exact (h4 x hx).1 h
  · have := (h4 x hx).2; omega

theorem GoodRs.nu {K Z : Nat → Prop} {w : World} {ν ν' : Nat → Value} {μ μ' : Nat → Bool} {rs : Rs} (h : GoodRs K Z w ν μ rs) (hμ : ∀ k, μ k = true → μ' k = true) (hν : ∀ k, μ k = true → ν' k = ν k) : GoodRs K Z w ν' μ' rs := by
  obtain ⟨Ft, h⟩ := h
  refine ⟨Ft, fun k b hk => ?_⟩
  obtain ⟨h1, h2, h3, h4, h5⟩ := h k b hk
  exact ⟨hμ k h1, menB_le hμ h2, by rw [hν k h1]; exact sat_nu hν h2 h3, h4, h5⟩

theorem GoodRs.sub {K Z : Nat → Prop} {w : World} {ν : Nat → Value} {μ : Nat → Bool} {rs rs' : Rs} (h : GoodRs K Z w ν μ rs) (hr : ∀ k b, rs' k = some b → rs k = some b) : GoodRs K Z w ν μ rs' := by
  obtain ⟨Ft, h⟩ := h
  refine ⟨Ft, fun k b hk => ?_⟩
  obtain ⟨h1, h2, h3, h4, h5⟩ := h k b (hr k b hk)
  exact ⟨h1, h2, h3, h4, fun k' b' hne hk' => h5 k' b' hne (hr k' b' hk')⟩

/-- The fence of the calculus: wide, in a round or not. -/
def FF (ro : Option Nat) : Fence := { Fence.wide with round := ro }

section
variable (P : Program) (ro : Option Nat) (N κ : Nat)

/-- What a code comes to from a state. -/
def Post (K Z : Nat → Prop) (w : World) (ν : Nat → Value) (Q : Exit → St → Prop) (e : Exit) (a' : Act) (w' : World) : Prop :=
  ∃ Z' ν' σ', Step K Z w Z' w' ∧ (∀ k, k < κ → ν' k = ν k) ∧ Good (un K Z') Z' N w' ν' σ' a' ∧ Q e σ'

def awp (c : Code) (σ : St) (Q : Exit → St → Prop) : Prop :=
  ∀ n K Z ν w a, Good K Z N w ν σ a → c.wpIn (FF ro) n P (Post N κ K Z w ν Q) a w
end

theorem un_assoc {K Z1 Z2 : Nat → Prop} (h : ∀ b, Z1 b → Z2 b) : un (un K Z1) Z2 = un K Z2 := by
  funext b
  simp only [un, eq_iff_iff]
  exact ⟨fun hh => hh.elim (fun h1 => h1.elim .inl fun h1 => .inr (h b h1)) .inr, fun hh => hh.elim (fun h1 => .inl (.inl h1)) .inr⟩

theorem Post.trans {N κ : Nat} {K Z : Nat → Prop} {w : World} {ν : Nat → Value} {Q : Exit → St → Prop} {e : Exit} {a' : Act} {w' : World} {Z1 : Nat → Prop} {w1 : World} {ν1 : Nat → Value} (h1 : Step K Z w Z1 w1) (hν : ∀ k, k < κ → ν1 k = ν k)
    (h : Post N κ (un K Z1) Z1 w1 ν1 Q e a' w') : Post N κ K Z w ν Q e a' w' := by
  obtain ⟨Z', ν', σ', hs, hk, hg, hq⟩ := h
  exact ⟨Z', ν', σ', h1.trans hs, fun k hk' => (hk k hk').trans (hν k hk'), by rw [un_assoc hs.le] at hg; exact hg, hq⟩

section rules
variable {P : Program} {ro : Option Nat} {N κ : Nat} {σ : St} {Q : Exit → St → Prop}

theorem awp_mono {c : Code} {Q' : Exit → St → Prop} (h : awp P ro N κ c σ Q) (hq : ∀ e s, Q e s → Q' e s) : awp P ro N κ c σ Q' :=
  fun n K Z ν w a hg => wpIn_mono (h n K Z ν w a hg) fun e a' w' ⟨Z', ν', σ', h1, h2, h3, h4⟩ => ⟨Z', ν', σ', h1, h2, h3, hq _ _ h4⟩

theorem un_self {K Z : Nat → Prop} (h : ∀ b, Z b → K b) : un K Z = K := by
  funext b
  simp only [un, eq_iff_iff]
  exact ⟨fun hh => hh.elim id (h b), .inl⟩

theorem post_now {K Z : Nat → Prop} {w : World} {ν : Nat → Value} {a : Act} {e : Exit} (hg : Good K Z N w ν σ a) (h : Q e σ) : Post N κ K Z w ν Q e a w :=
  ⟨Z, ν, σ, Step.refl K Z w, fun _ _ => rfl, by rw [un_self hg.zk]; exact hg, h⟩

theorem awp_skip (h : Q .normal σ) : awp P ro N κ .skip σ Q := fun n K Z ν w a hg => wpIn_skip (post_now hg h)
theorem awp_label {l : Nat} (h : Q .normal σ) : awp P ro N κ (.label l) σ Q := fun n K Z ν w a hg => wpIn_label (post_now hg h)
theorem awp_exit {id : Nat} (h : Q (.exit id) σ) : awp P ro N κ (.exit id) σ Q := fun n K Z ν w a hg => wpIn_exit (post_now hg h)
theorem awp_ret (h : Q .ret σ) : awp P ro N κ .ret σ Q := fun n K Z ν w a hg => wpIn_ret (post_now hg h)

def thenQ (next : St → Prop) (Q : Exit → St → Prop) : Exit → St → Prop
  | .normal, s => next s
  | e, s => Q e s

theorem awp_seq {x y : Code} (h : awp P ro N κ x σ (thenQ (fun s => awp P ro N κ y s Q) Q)) : awp P ro N κ (.seq x y) σ Q := by
  intro n K Z ν w a hg
  refine wpIn_seq (wpIn_mono (h n K Z ν w a hg) ?_)
  rintro e a' w' ⟨Z', ν', σ', h1, h2, h3, h4⟩
  cases e with
  | normal => exact wpIn_mono (h4 n _ _ _ _ _ h3) fun e2 a2 w2 hp => hp.trans h1 h2
  | _ => exact ⟨Z', ν', σ', h1, h2, h3, h4⟩

def blockQ (id : Nat) (Q : Exit → St → Prop) : Exit → St → Prop
  | .exit id', s => if id' = id then Q .normal s else Q (.exit id') s
  | e, s => Q e s

theorem awp_block {id : Nat} {c : Code} (h : awp P ro N κ c σ (blockQ id Q)) : awp P ro N κ (.block id c) σ Q := by
  intro n K Z ν w a hg
  refine wpIn_block (wpIn_mono (h n K Z ν w a hg) ?_)
  rintro e a' w' ⟨Z', ν', σ', h1, h2, h3, h4⟩
  cases e with
  | exit id' =>
    show (if id' = id then _ else _)
    simp only [blockQ] at h4
    split
    · rw [if_pos ‹_›] at h4; exact ⟨Z', ν', σ', h1, h2, h3, h4⟩
    · rw [if_neg ‹_›] at h4; exact ⟨Z', ν', σ', h1, h2, h3, h4⟩
  | _ => exact ⟨Z', ν', σ', h1, h2, h3, h4⟩

def opv (env : Env) : Operand → AV
  | .tmp t => env t
  | .const v => match v with | .int k n => .int k n | .bool b => .bool b | v => .cst v
  | .func f => .fn f .nil
  | .global g => .cst (.pointer (some ⟨g, 0, none⟩))

theorem opv_R {K Z : Nat → Prop} {w : World} {ν : Nat → Value} {a : Act} (hg : Good K Z N w ν σ a) (x : Operand) : R Z w (opv σ.env x) ν true [a.eval x] := by
  cases x with
  | tmp t => exact (hg.env t).2
  | const v => cases v <;> exact rfl
  | func f => exact ⟨[], rfl, rfl⟩
  | global g => exact rfl

theorem opv_men {K Z : Nat → Prop} {w : World} {ν : Nat → Value} {a : Act} (hg : Good K Z N w ν σ a) (x : Operand) : men σ.mu (opv σ.env x) = true := by
  cases x with
  | tmp t => exact (hg.env t).1
  | const v => cases v <;> exact rfl
  | func f => rfl
  | global g => rfl

theorem awp_cond {c : Operand} {x y : Code} {b : Bool} (hc : opv σ.env c = .bool b) (ht : b = true → awp P ro N κ x σ Q) (hf : b = false → awp P ro N κ y σ Q) : awp P ro N κ (.cond c x y) σ Q := by
  intro n K Z ν w a hg
  have hr := opv_R hg c
  rw [hc] at hr
  have hv : a.eval c = .bool b := by simpa [R] using hr
  exact wpIn_cond_split hv (fun h => ht h n K Z ν w a hg) (fun h => hf h n K Z ν w a hg)

/-- A state may be taken for a weaker one: keys renamed, temporaries and resources forgotten. -/
structure Le (κ : Nat) (σ : St) (ρ : Nat → Nat) (σ' : St) : Prop where
  env : ∀ s, σ'.env s = .any ∨ (men σ'.mu (σ'.env s) = true ∧ ren ρ (σ'.env s) = σ.env s)
  rs : ∀ k b, σ'.rs k = some b → σ'.mu k = true ∧ menB σ'.mu b ∧ σ.rs (ρ k) = some (renB ρ b)
  inj : ∀ k k' b b', σ'.rs k = some b → σ'.rs k' = some b' → ρ k = ρ k' → k = k'
  ms : σ'.ms.map ρ = σ.ms
  ml : ∀ k, k ∈ σ'.ms → σ'.mu k = true
  id : ∀ k, k < κ → ρ k = k

theorem Good.le {K Z : Nat → Prop} {w : World} {ν : Nat → Value} {a : Act} {ρ : Nat → Nat} {σ' : St} (hg : Good K Z N w ν σ a) (h : Le κ σ ρ σ') : Good K Z N w (fun k => ν (ρ k)) σ' a := by
  refine ⟨hg.size, fun k => hg.one _, fun s => ?_, ?_, hg.zk, hg.kl, ?_, h.ml⟩
  · rcases h.env s with he | ⟨hm, he⟩
    · rw [he]; exact ⟨rfl, _, rfl⟩
    · refine ⟨hm, R_ren.1 ?_⟩
      rw [he]; exact (hg.env s).2
  · obtain ⟨Ft, hF⟩ := hg.rs
    refine ⟨fun k => Ft (ρ k), fun k b hk => ?_⟩
    obtain ⟨h1, h2, h3⟩ := h.rs k b hk
    obtain ⟨g1, g2, g3, g4, g5⟩ := hF _ _ h3
    exact ⟨h1, h2, sat_ren.1 g3, g4, fun k' b' hne hk' => g5 _ _ (fun e => hne (h.inj k k' b b' hk hk' e)) (h.rs k' b' hk').2.2⟩
  · rw [hg.ds, ← h.ms, List.map_map]; rfl

theorem awp_le {c : Code} {ρ : Nat → Nat} {σ' : St} (hle : Le κ σ ρ σ') (h : awp P ro N κ c σ' Q) : awp P ro N κ c σ Q := by
  intro n K Z ν w a hg
  refine wpIn_mono (h n K Z _ w a (hg.le hle)) ?_
  rintro e a' w' ⟨Z', ν', s', h1, h2, h3, h4⟩
  exact ⟨Z', ν', s', h1, fun k hk => by rw [h2 k hk]; show ν (ρ k) = ν k; rw [hle.id k hk], h3, h4⟩

theorem awp_loop {c : Code} {τ : Type} (I : τ → Prop) (S : τ → St) (μ : τ → Nat) (t0 : τ) (ρ0 : Nat → Nat) (hle : Le κ σ ρ0 (S t0)) (h0 : I t0)
    (round : ∀ t, I t → awp P ro N κ c (S t) (thenQ (fun s => ∃ t' ρ, Le κ s ρ (S t') ∧ I t' ∧ μ t' < μ t) Q)) : awp P ro N κ (.loop c) σ Q := by
  refine awp_le hle ?_
  clear hle
  intro n K Z ν w a hg
  let inv : Act → World → Nat → Prop := fun a' w' m => ∃ t Z' ν', Step K Z w Z' w' ∧ (∀ k, k < κ → ν' k = ν k) ∧ Good (un K Z') Z' N w' ν' (S t) a' ∧ I t ∧ μ t = m
  classical
  let msr : Act → World → Nat := fun a' w' => if h : ∃ m, inv a' w' m ∧ ∀ m', inv a' w' m' → m ≤ m' then Classical.choose h else 0
  have hmin : ∀ a' w' m, inv a' w' m → inv a' w' (msr a' w') ∧ msr a' w' ≤ m := by
    intro a' w' m hm
    have hex : ∃ m, inv a' w' m ∧ ∀ m', inv a' w' m' → m ≤ m' := by
      have key : ∀ j m, m ≤ j → inv a' w' m → ∃ m, inv a' w' m ∧ ∀ m', inv a' w' m' → m ≤ m' := by
        intro j
        induction j with
        | zero => intro m hj hm; exact ⟨m, hm, fun m' _ => by omega⟩
        | succ j ih =>
          intro m hj hm
          by_cases hs : ∃ m', inv a' w' m' ∧ m' < m
          · obtain ⟨m', h1, h2⟩ := hs
            exact ih m' (by omega) h1
          · exact ⟨m, hm, fun m' h' => Nat.le_of_not_lt fun hlt => hs ⟨m', h', hlt⟩⟩
      exact key m m (Nat.le_refl _) hm
    have hd : msr a' w' = Classical.choose hex := by simp only [msr]; rw [dif_pos hex]
    have hc := Classical.choose_spec hex
    rw [hd]
    exact ⟨hc.1, hc.2 m hm⟩
  refine wpIn_loop (fun a' w' => ∃ m, inv a' w' m) msr ⟨μ t0, t0, Z, ν, Step.refl K Z w, fun _ _ => rfl, by rw [un_self hg.zk]; exact hg, h0, rfl⟩ ?_
  rintro a1 w1 ⟨m, hm⟩
  obtain ⟨⟨t, Z1, ν1, s1, k1, g1, i1, e1⟩, _⟩ := hmin a1 w1 m hm
  refine wpIn_mono (round t i1 n _ _ _ _ _ g1) ?_
  rintro e a2 w2 ⟨Z2, ν2, σ2, s2, k2, g2, q2⟩
  cases e with
  | normal =>
    obtain ⟨t', ρ, hle, hi, hlt⟩ := q2
    have hinv : inv a2 w2 (μ t') := ⟨t', Z2, fun k => ν2 (ρ k), s1.trans s2, fun k hk => by show ν2 (ρ k) = ν k; rw [hle.id k hk, k2 k hk, k1 k hk], by
      rw [un_assoc s2.le] at g2; exact g2.le hle, hi, rfl⟩
    refine ⟨⟨_, hinv⟩, ?_⟩
    have := (hmin a2 w2 _ hinv).2
    omega
  | _ => exact Post.trans s1 k1 ⟨Z2, ν2, σ2, s2, k2, g2, q2⟩
end rules

end Go.Proofs.Ytgminhedbeblpaa.Cal
