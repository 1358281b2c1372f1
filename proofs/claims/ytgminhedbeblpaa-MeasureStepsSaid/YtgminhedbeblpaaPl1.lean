/- Plain facts: lists, and the way of a function from a start to its first repetition. -/
set_option linter.unusedVariables false
set_option linter.unusedSimpArgs false
namespace Go.Proofs.Ytgminhedbeblpaa.Pl

theorem nodup_len : ∀ (n : Nat) (l : List Nat), l.Nodup → (∀ x, x ∈ l → x < n) → l.length ≤ n := by
  intro n
  induction n with
  | zero => intro l _ h; cases l with
    | nil => simp
    | cons a t => exact absurd (h a List.mem_cons_self) (Nat.not_lt_zero _)
  | succ n ih =>
    intro l hn h
    have h1 := ih (l.filter fun x => x != n) (hn.filter _) (fun x hx => by
      rw [List.mem_filter] at hx
      have := h x hx.1
      have h2 : x ≠ n := by simpa using hx.2
      omega)
    have h2 : l.length ≤ (l.filter fun x => x != n).length + 1 := by
      clear ih h h1
      induction l with
      | nil => simp
      | cons a t ih =>
        rw [List.nodup_cons] at hn
        by_cases ha : a = n
        · subst ha
          have : (t.filter fun x => x != a) = t := List.filter_eq_self.2 fun x hx => by
            have : x ≠ a := fun e => hn.1 (e ▸ hx)
            simpa using this
          rw [List.filter_cons]
          simp [this]
        · rw [List.filter_cons]
          have : (a != n) = true := by simpa using ha
          rw [if_pos this]
          have := ih hn.2
          simp only [List.length_cons]
          omega
    omega

/-- The way: f from s, k steps. -/
def orb (f : Nat → Nat) (s : Nat) : Nat → Nat
  | 0 => s
  | k + 1 => f (orb f s k)

def Fresh (f : Nat → Nat) (s k : Nat) : Prop := ∀ i j, i < j → j < k → orb f s i ≠ orb f s j

theorem fresh_le {f : Nat → Nat} {s n k : Nat} (hn : ∀ j, orb f s j < n) (h : Fresh f s k) : k ≤ n := by
  have h1 := nodup_len n ((List.range k).map (orb f s)) (by
    rw [List.nodup_iff_pairwise_ne, List.pairwise_map]
    refine List.Pairwise.imp_of_mem ?_ (List.pairwise_lt_range (n := k))
    intro a b ha hb hab
    exact h a b hab (List.mem_range.1 hb)) (fun x hx => by
    obtain ⟨j, _, rfl⟩ := List.mem_map.1 hx
    exact hn j)
  simpa using h1

theorem fresh_succ {f : Nat → Nat} {s k : Nat} (h : Fresh f s k) (h2 : ∀ i, i < k → orb f s i ≠ orb f s k) : Fresh f s (k + 1) := fun i j hij hj => by
  rcases Nat.lt_succ_iff_lt_or_eq.1 hj with h' | rfl
  · exact h i j hij h'
  · exact h2 i hij

/-- Where the way first comes again to a place: the length of the way, and the place's first time. -/
def Again (f : Nat → Nat) (s L k : Nat) : Prop := Fresh f s L ∧ k < L ∧ orb f s L = orb f s k

theorem again_unique {f : Nat → Nat} {s L k L' k' : Nat} (h : Again f s L k) (h' : Again f s L' k') : L = L' ∧ k = k' := by
  obtain ⟨h1, h2, h3⟩ := h
  obtain ⟨h1', h2', h3'⟩ := h'
  have hL : L = L' := by
    rcases Nat.lt_trichotomy L L' with hl | hl | hl
    · exact absurd h3.symm (h1' k L h2 hl)
    · exact hl
    · exact absurd h3'.symm (h1 k' L' h2' hl)
  subst hL
  refine ⟨rfl, ?_⟩
  rcases Nat.lt_trichotomy k k' with hk | hk | hk
  · exact absurd (h3.symm.trans h3') (h1 k k' hk h2')
  · exact hk
  · exact absurd (h3'.symm.trans h3) (h1 k' k hk h2)

theorem again_ex {f : Nat → Nat} {s n : Nat} (hn : ∀ j, orb f s j < n) : ∃ L k, Again f s L k ∧ L ≤ n := by
  have key : ∀ m, m ≤ n + 1 → Fresh f s m ∨ ∃ L k, Again f s L k ∧ L < m := by
    intro m
    induction m with
    | zero => intro _; exact .inl fun i j _ hj => absurd hj (Nat.not_lt_zero _)
    | succ m ih =>
      intro hm
      rcases ih (by omega) with h | ⟨L, k, h, hl⟩
      · by_cases hx : ∃ i, i < m ∧ orb f s i = orb f s m
        · obtain ⟨i, hi, e⟩ := hx
          exact .inr ⟨m, i, ⟨h, hi, e.symm⟩, by omega⟩
        · exact .inl (fresh_succ h fun i hi e => hx ⟨i, hi, e⟩)
      · exact .inr ⟨L, k, h, by omega⟩
  rcases key (n + 1) (Nat.le_refl _) with h | ⟨L, k, h, hl⟩
  · have := fresh_le hn h; omega
  · exact ⟨L, k, h, by omega⟩

end Go.Proofs.Ytgminhedbeblpaa.Pl

namespace Go.Proofs.Ytgminhedbeblpaa.Cal

theorem take1 {α : Type} {x : List α} {i : Nat} {d : α} (h : i < x.length) : x.take (i + 1) = x.take i ++ [x.getD i d] := by
  rw [List.take_add_one, List.getD_eq_getElem?_getD, List.getElem?_eq_getElem h]; rfl
/-- The first i as f says, the others as h says. -/
def mix {β : Type} (f h : Nat → β) (n i : Nat) : List β := (List.range n).map fun v => if v < i then f v else h v
theorem mix_len {β : Type} {f h : Nat → β} {n i : Nat} : (mix f h n i).length = n := by simp [mix]
theorem mix_set {β : Type} {f h : Nat → β} {n i : Nat} : (mix f h n i).set i (f i) = mix f h n (i + 1) := by
  refine List.ext_getElem? fun j => ?_
  rw [List.getElem?_set]
  simp only [mix, List.getElem?_map, List.length_map, List.length_range]
  by_cases hj : j < n
  · rw [List.getElem?_range hj]
    by_cases hij : i = j
    · subst hij; simp [hj]
    · rw [if_neg hij]
      simp only [Option.map_some, Option.some.injEq]
      by_cases h1 : j < i
      · rw [if_pos h1, if_pos (by omega)]
      · rw [if_neg h1, if_neg (by omega)]
  · rw [List.getElem?_eq_none (by simpa using hj)]
    by_cases hij : i = j
    · subst hij; simp [hj]
    · rw [if_neg hij]; rfl
theorem mix_keep {β : Type} {f h : Nat → β} {n i : Nat} (e : f i = h i) : mix f h n i = mix f h n (i + 1) := by
  refine List.map_congr_left fun v hv => ?_
  by_cases h1 : v < i
  · rw [if_pos h1, if_pos (by omega)]
  · by_cases h2 : v = i
    · subst h2; rw [if_neg h1, if_pos (by omega), e]
    · rw [if_neg h1, if_neg (by omega)]
theorem mix_zero {β : Type} {f : Nat → β} {x : List β} {d : β} : mix f (fun v => x.getD v d) x.length 0 = x := by
  refine List.ext_getElem (by simp [mix]) fun j h1 h2 => ?_
  simp [mix, List.getD_eq_getElem?_getD, h2]
theorem mix_all {β : Type} {f h : Nat → β} {n : Nat} : mix f h n n = (List.range n).map f := by
  refine List.map_congr_left fun v hv => ?_
  rw [if_pos (List.mem_range.1 hv)]

/-- The positions that are kept, below n. -/
def kp (k : List Bool) (n : Nat) : List Nat := (List.range n).filter fun v => k.getD v false
theorem kp_succ {k : List Bool} {n : Nat} : kp k (n + 1) = if k.getD n false = true then kp k n ++ [n] else kp k n := by
  unfold kp
  rw [List.range_succ, List.filter_append]
  cases h : k.getD n false with
  | true => rw [if_pos rfl]; congr 1; simp only [List.filter_cons, h, List.filter_nil]; rfl
  | false => rw [if_neg (by decide)]; simp only [List.filter_cons, h, List.filter_nil]; exact List.append_nil _
theorem kp_lt {k : List Bool} {n v : Nat} (h : v ∈ kp k n) : v < n := List.mem_range.1 (List.mem_filter.1 h).1
theorem kp_len {k : List Bool} {n : Nat} : (kp k n).length ≤ n := by
  have := List.length_filter_le (fun v => k.getD v false) (List.range n)
  rw [List.length_range] at this; exact this


end Go.Proofs.Ytgminhedbeblpaa.Cal
