/- Plain facts: lists, and the way of a function from a start to its first repetition. -/
set_option linter.unusedVariables false
set_option linter.unusedSimpArgs false
namespace Go.Proofs.Ytinfflpephioiaa.Pl

theorem nodup_len : ∀ (n : Nat) (l : List Nat), l.Nodup → (∀ x, x ∈ l → x < n) → l.length ≤ n := by
  intro n
  induction n with
  | zero => intro l _ h; cases l with
    | nil => simp
    | cons a t => exact absurd (h a List.mem_cons_self) (Nat.not_lt_zero _)
  | succ n ih =>
    intro l hn h
    have h1 := ih (l.filter fun x => x != n) (hn.filter _) (fun x hx => by
      rw [List.mem_filter] at hx
      have := h x hx.1
      have h2 : x ≠ n := by simpa using hx.2
      omega)
    have h2 : l.length ≤ (l.filter fun x => x != n).length + 1 := by
      clear ih h h1
      induction l with
      | nil => simp
      | cons a t ih =>
        rw [List.nodup_cons] at hn
        by_cases ha : a = n
        · subst ha
          have : (t.filter fun x => x != a) = t := List.filter_eq_self.2 fun x hx => by
            have : x ≠ a := fun e => hn.1 (e ▸ hx)
            simpa using this
          rw [List.filter_cons]
          simp [this]
        · rw [List.filter_cons]
          have : (a != n) = true := by simpa using ha
          rw [if_pos this]
          have := ih hn.2
          simp only [List.length_cons]
          omega
    omega

/-- The way: f from s, k steps. -/
def orb (f : Nat → Nat) (s : Nat) : Nat → Nat
  | 0 => s
  | k + 1 => f (orb f s k)

def Fresh (f : Nat → Nat) (s k : Nat) : Prop := ∀ i j, i < j → j < k → orb f s i ≠ orb f s j

theorem fresh_le {f : Nat → Nat} {s n k : Nat} (hn : ∀ j, orb f s j < n) (h : Fresh f s k) : k ≤ n := by
  have h1 := nodup_len n ((List.range k).map (orb f s)) (by
    rw [List.nodup_iff_pairwise_ne, List.pairwise_map]
    refine List.Pairwise.imp_of_mem ?_ (List.pairwise_lt_range (n := k))
    intro a b ha hb hab
    exact h a b hab (List.mem_range.1 hb)) (fun x hx => by
    obtain ⟨j, _, rfl⟩ := List.mem_map.1 hx
    exact hn j)
  simpa using h1

theorem fresh_succ {f : Nat → Nat} {s k : Nat} (h : Fresh f s k) (h2 : ∀ i, i < k → orb f s i ≠ orb f s k) : Fresh f s (k + 1) := fun i j hij hj => by
  rcases Nat.lt_succ_iff_lt_or_eq.1 hj with h' | rfl
  · exact h i j hij h'
  · exact h2 i hij

/-- Where the way first comes again to a place: the length of the way, and the place's first time. -/
def Again (f : Nat → Nat) (s L k : Nat) : Prop := Fresh f s L ∧ k < L ∧ orb f s L = orb f s k

theorem again_unique {f : Nat → Nat} {s L k L' k' : Nat} (h : Again f s L k) (h' : Again f s L' k') : L = L' ∧ k = k' := by
  obtain ⟨h1, h2, h3⟩ := h
  obtain ⟨h1', h2', h3'⟩ := h'
  have hL : L = L' := by
    rcases Nat.lt_trichotomy L L' with hl | hl | hl
    · exact absurd h3.symm (h1' k L h2 hl)
    · exact hl
    · exact absurd h3'.symm (h1 k' L' h2' hl)
  subst hL
  refine ⟨rfl, ?_⟩
  rcases Nat.lt_trichotomy k k' with hk | hk | hk
  · exact absurd (h3.symm.trans h3') (h1 k k' hk h2')
  · exact hk
  · exact absurd (h3'.symm.trans h3) (h1 k' k hk h2)

theorem again_ex {f : Nat → Nat} {s n : Nat} (hn : ∀ j, orb f s j < n) : ∃ L k, Again f s L k ∧ L ≤ n := by
  have key : ∀ m, m ≤ n + 1 → Fresh f s m ∨ ∃ L k, Again f s L k ∧ L < m := by
    intro m
    induction m with
    | zero => intro _; exact .inl fun i j _ hj => absurd hj (Nat.not_lt_zero _)
    | succ m ih =>
      intro hm
      rcases ih (by omega) with h | ⟨L, k, h, hl⟩
      · by_cases hx : ∃ i, i < m ∧ orb f s i = orb f s m
        · obtain ⟨i, hi, e⟩ := hx
          exact .inr ⟨m, i, ⟨h, hi, e.symm⟩, by omega⟩
        · exact .inl (fresh_succ h fun i hi e => hx ⟨i, hi, e⟩)
      · exact .inr ⟨L, k, h, by omega⟩
  rcases key (n + 1) (Nat.le_refl _) with h | ⟨L, k, h, hl⟩
  · have := fresh_le hn h; omega
  · exact ⟨L, k, h, by omega⟩

end Go.Proofs.Ytinfflpephioiaa.Pl
