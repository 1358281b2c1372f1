/- What single operations come to, over abstract values: those that make memory or write it. -/
import Derived.Test.YtgminhedbeblpaaCal7
import Derived.Laws.CopyRow
set_option linter.unusedVariables false
set_option linter.unusedSimpArgs false
namespace Go.Proofs.Ytgminhedbeblpaa.Cal
open Go

def upN (ν : Nat → Value) (k : Nat) (x : Value) : Nat → Value := fun j => if j = k then x else ν j

theorem upN_same {ν : Nat → Value} {k : Nat} {x : Value} : upN ν k x k = x := by simp [upN]
theorem upN_other {ν : Nat → Value} {k j : Nat} {x : Value} (h : j ≠ k) : upN ν k x j = ν j := by simp [upN, h]
theorem upN_ext {μ : Nat → Bool} {ν : Nat → Value} {k : Nat} {x : Value} (h : μ k = false) : ∀ j, μ j = true → upN ν k x j = ν j := fun j hj => upN_other (by rintro rfl; rw [h] at hj; cases hj)
theorem upN_one {ν : Nat → Value} {k : Nat} {x : Value} (h : ∀ j, (ν j).oneCell' = true) (hx : x.oneCell' = true) : ∀ j, (upN ν k x j).oneCell' = true := fun j => by
  unfold upN; split
  · exact hx
  · exact h j
theorem addK_le {μ : Nat → Bool} {kn : Option Nat} : ∀ k, μ k = true → addK μ kn k = true := fun k h => by
  cases kn with
  | none => exact h
  | some j => simp [addK, h]
theorem addK_new {μ : Nat → Bool} {k : Nat} : addK μ (some k) k = true := by simp [addK, Nat.beq_refl]
theorem addK_self {μ : Nat → Bool} {k : Nat} (h : μ k = true) : addK μ (some k) = μ := by
  funext j
  simp only [addK]
  cases hj : Nat.beq j k with
  | false => simp
  | true => have := Nat.eq_of_beq_eq_true hj; subst this; simp [h]

structure OpSem (P : Program) (o : Oper) (get : Operand → AV) (val : AV) (rd : List (Nat × Blk)) (wr : List (Nat × Option Blk)) (kn : Option Nat) : Prop where
  sem : ∀ (K Z : Nat → Prop) (ν : Nat → Value) (w : World) (ev : Operand → Value) (μ : Nat → Bool) (rs : Rs), (∀ k, (ν k).oneCell' = true) → GoodRs K Z w ν μ rs → (∀ b, Z b → K b) → (∀ b, K b → b < w.heap.size) →
    (∀ x, x ∈ o.op.operands → R Z w (get x) ν true [ev x] ∧ men μ (get x) = true) → (∀ p, p ∈ rd → rs p.1 = some p.2) → (∀ k, kn = some k → μ k = false) →
    ∃ y w' ν' Z', ((execOp ev o).run P w = .ok (.value y) w' ∨ ((execOp ev o).run P w = .ok .skip w' ∧ y = undef)) ∧ Step K Z w Z' w' ∧ (∀ k, μ k = true → ν' k = ν k) ∧ (∀ k, (ν' k).oneCell' = true) ∧
      GoodRs (un K Z') Z' w' ν' (addK μ kn) (updL rs wr) ∧ R Z' w' val ν' true [y] ∧ men (addK μ kn) val = true ∧ (∀ b, Z' b → b < w'.heap.size)

theorem opsem_pure {P : Program} {o : Oper} {get : Operand → AV} {val : AV} {rd : List (Nat × Blk)}
    (h : ∀ (K Z : Nat → Prop) (ν : Nat → Value) (w : World) (ev : Operand → Value) (μ : Nat → Bool) (rs : Rs), (∀ k, (ν k).oneCell' = true) → GoodRs K Z w ν μ rs → (∀ x, x ∈ o.op.operands → R Z w (get x) ν true [ev x] ∧ men μ (get x) = true) → (∀ p, p ∈ rd → rs p.1 = some p.2) →
      ∃ y, (execOp ev o).run P w = .ok (.value y) w ∧ R Z w val ν true [y] ∧ men μ val = true) : OpSem P o get val rd [] none :=
  ⟨fun K Z ν w ev μ rs h1 hg hzk hkl hx hrd hkn => by
    obtain ⟨y, hy, hr, hm⟩ := h K Z ν w ev μ rs h1 hg hx hrd
    exact ⟨y, w, ν, Z, .inl hy, Step.refl K Z w, fun _ _ => rfl, h1, by rw [un_self hzk]; exact hg, hr, hm, fun b hb => hkl b (hzk b hb)⟩⟩

section
variable {P : Program} {K Z : Nat → Prop} {ν : Nat → Value} {w : World} {get : Operand → AV} {ev : Operand → Value} {μ : Nat → Bool} {rs : Rs}

theorem step_alloc (hkl : ∀ b, K b → b < w.heap.size) (o : Obj) : Step K Z w Z (w.alloc o) :=
  ⟨⟨rfl, rfl, rfl, by simp, fun b hb => RowKit.Below.heap_alloc _ _ _ (hkl b hb)⟩, fun _ h => h, fun _ h => .inl h⟩

theorem alloc_old (o : Obj) {y : Nat} (hy : y < w.heap.size) : (w.alloc o).heap[y]? = w.heap[y]? := RowKit.Below.heap_alloc _ _ _ hy
theorem alloc_new (o : Obj) : (w.alloc o).heap[w.heap.size]? = some o := World.alloc_heap_new w o

/-- A new resource over a new block. -/
theorem grs_new (h : GoodRs K Z w ν μ rs) (hzk : ∀ b, Z b → K b) (hkl : ∀ b, K b → b < w.heap.size) {kn : Nat} (hk : μ kn = false) {w' : World} (hsz : w.heap.size ≤ w'.heap.size) (hold : ∀ y, y < w.heap.size → w'.heap[y]? = w.heap[y]?) {x : Value} {B : Blk} {F : Nat → Prop}
    (hs : sat Z w' (upN ν kn x) x F B) (hm : menB (addK μ (some kn)) B) (hF : ∀ y, F y → w.heap.size ≤ y ∧ y < w'.heap.size) : GoodRs K Z w' (upN ν kn x) (addK μ (some kn)) (updL rs [(kn, some B)]) := by
  obtain ⟨Ft, h⟩ := h
  refine ⟨fun k => if k = kn then F else Ft k, fun k b hkb => ?_⟩
  have hold' : ∀ k b, k ≠ kn → updL rs [(kn, some B)] k = some b → rs k = some b := by
    intro k b hne hkb
    have : lko [(kn, some B)] k = none := lko_none (by intro p hp; simp at hp; subst hp; exact Ne.symm hne)
    simp only [updL, this] at hkb
    exact hkb
  by_cases hkk : k = kn
  · subst hkk
    have : updL rs [(k, some B)] k = some B := by simp [updL, lko, Nat.beq_refl]
    rw [this] at hkb
    obtain rfl : B = b := Option.some.inj hkb
    dsimp only
    rw [if_pos rfl, upN_same]
    refine ⟨addK_new, hm, hs, fun y hy => ⟨fun hK => ?_, (hF y hy).2⟩, fun k' b' hne hk' y hy => ?_⟩
    · have := hkl y hK; have := (hF y hy).1; omega
    · have h0 := hold' k' b' (Ne.symm hne) hk'
      rw [if_neg (Ne.symm hne)]
      intro hf
      have := ((h k' b' h0).2.2.2.1 y hf).2
      have := (hF y hy).1
      omega
  · have h0 := hold' k b hkk hkb
    obtain ⟨g1, g2, g3, g4, g5⟩ := h k b h0
    simp only [if_neg hkk]
    rw [upN_other hkk]
    refine ⟨addK_le k g1, menB_le addK_le g2, sat_mono (fun _ h => h) (fun b hb => hold b (hkl b (hzk b hb))) (fun y hy => hold y (g4 y hy).2) (sat_nu (upN_ext hk) g2 g3), fun y hy => ⟨(g4 y hy).1, Nat.lt_of_lt_of_le (g4 y hy).2 hsz⟩, fun k' b' hne hk' y hy => ?_⟩
    by_cases hk2 : k' = kn
    · subst hk2
      rw [if_pos rfl]
      intro hf
      have := (hF y hf).1; have := (g4 y hy).2; omega
    · rw [if_neg hk2]
      exact g5 k' b' hne (hold' k' b' hk2 hk') y hy

/-- One resource turns into another (under its own key or a new one); what it lay over may have been written, new blocks may have come. -/
theorem grs_swap (h : GoodRs K Z w ν μ rs) (hzk : ∀ b, Z b → K b) (hkl : ∀ b, K b → b < w.heap.size) {k0 : Nat} {b0 : Blk} (hk0 : rs k0 = some b0) :
    ∃ F0, sat Z w ν (ν k0) F0 b0 ∧ menB μ b0 ∧ μ k0 = true ∧ (∀ y, F0 y → ¬ K y ∧ y < w.heap.size) ∧
      ∀ (w' : World) (ν' : Nat → Value) (kn : Nat) (B : Blk) (F' : Nat → Prop), w.heap.size ≤ w'.heap.size → (∀ y, ¬ F0 y → y < w.heap.size → w'.heap[y]? = w.heap[y]?) → (∀ k, μ k = true → ν' k = ν k) → (kn = k0 ∨ μ kn = false) →
        sat Z w' ν' (ν' kn) F' B → menB (addK μ (some kn)) B → (∀ y, F' y → (F0 y ∨ w.heap.size ≤ y) ∧ y < w'.heap.size) → GoodRs K Z w' ν' (addK μ (some kn)) (updL rs [(kn, some B), (k0, none)]) := by
  obtain ⟨Ft, h⟩ := h
  obtain ⟨a1, a2, a3, a4, a5⟩ := h k0 b0 hk0
  refine ⟨Ft k0, a3, a2, a1, a4, ?_⟩
  intro w' ν' kn B F' hsz hold hν hkn hs hm hF
  have hold' : ∀ k b, k ≠ kn → updL rs [(kn, some B), (k0, none)] k = some b → rs k = some b ∧ k ≠ k0 := by
    intro k b hne hkb
    by_cases hk : k = k0
    · subst hk
      have hb : Nat.beq k kn = false := by cases hb : Nat.beq k kn with
        | false => rfl
        | true => exact absurd (Nat.eq_of_beq_eq_true hb) hne
      simp [updL, lko, hb, Nat.beq_refl] at hkb
    · have : lko [(kn, some B), (k0, none)] k = none := lko_none (by intro p hp; simp at hp; rcases hp with rfl | rfl <;> first | exact Ne.symm hne | exact Ne.symm hk)
      simp only [updL, this] at hkb
      exact ⟨hkb, hk⟩
  refine ⟨fun k => if k = kn then F' else Ft k, fun k b hkb => ?_⟩
  by_cases hkk : k = kn
  · subst hkk
    have : updL rs [(k, some B), (k0, none)] k = some B := by simp [updL, lko, Nat.beq_refl]
    rw [this] at hkb
    obtain rfl : B = b := Option.some.inj hkb
    dsimp only
    rw [if_pos rfl]
    refine ⟨addK_new, hm, hs, fun y hy => ⟨fun hK => ?_, (hF y hy).2⟩, fun k' b' hne hk' y hy => ?_⟩
    · rcases (hF y hy).1 with h1 | h1
      · exact (a4 y h1).1 hK
      · have := hkl y hK; omega
    · obtain ⟨h0, hne0⟩ := hold' k' b' (Ne.symm hne) hk'
      rw [if_neg (Ne.symm hne)]
      intro hf
      rcases (hF y hy).1 with h1 | h1
      · exact a5 k' b' (Ne.symm hne0) h0 y h1 hf
      · have := ((h k' b' h0).2.2.2.1 y hf).2; omega
  · obtain ⟨h0, hne0⟩ := hold' k b hkk hkb
    obtain ⟨g1, g2, g3, g4, g5⟩ := h k b h0
    have hap : ∀ y, Ft k y → ¬ Ft k0 y := fun y hy => g5 k0 b0 hne0 hk0 y hy
    simp only [if_neg hkk]
    rw [hν k g1]
    refine ⟨addK_le k g1, menB_le addK_le g2, sat_mono (fun _ h => h) (fun b hb => hold b (fun hf => (a4 b hf).1 (hzk b hb)) (hkl b (hzk b hb))) (fun y hy => hold y (hap y hy) (g4 y hy).2) (sat_nu hν g2 g3),
      fun y hy => ⟨(g4 y hy).1, Nat.lt_of_lt_of_le (g4 y hy).2 hsz⟩, fun k' b' hne hk' y hy => ?_⟩
    by_cases hk2 : k' = kn
    · subst hk2
      rw [if_pos rfl]
      intro hf
      rcases (hF y hf).1 with h1 | h1
      · exact hap y hy h1
      · have := (g4 y hy).2; omega
    · rw [if_neg hk2]
      exact g5 k' b' hne (hold' k' b' hk2 hk').1 y hy
end

end Go.Proofs.Ytgminhedbeblpaa.Cal
