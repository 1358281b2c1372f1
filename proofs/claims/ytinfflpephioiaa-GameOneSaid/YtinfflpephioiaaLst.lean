/- Plain facts: lists that are filled step by step. -/
import Derived.Test.YtinfflpephioiaaPl1
set_option linter.unusedVariables false
set_option linter.unusedSimpArgs false
namespace Go.Proofs.Ytinfflpephioiaa.Cal

theorem take1 {α : Type} {x : List α} {i : Nat} {d : α} (h : i < x.length) : x.take (i + 1) = x.take i ++ [x.getD i d] := by
  rw [List.take_add_one, List.getD_eq_getElem?_getD, List.getElem?_eq_getElem h]; rfl
/-- The first i as f says, the others as h says. -/
def mix {β : Type} (f h : Nat → β) (n i : Nat) : List β := (List.range n).map fun v => if v < i then f v else h v
theorem mix_len {β : Type} {f h : Nat → β} {n i : Nat} : (mix f h n i).length = n := by simp [mix]
theorem mix_set {β : Type} {f h : Nat → β} {n i : Nat} : (mix f h n i).set i (f i) = mix f h n (i + 1) := by
  refine List.ext_getElem? fun j => ?_
  rw [List.getElem?_set]
  simp only [mix, List.getElem?_map, List.length_map, List.length_range]
  by_cases hj : j < n
  · rw [List.getElem?_range hj]
    by_cases hij : i = j
    · subst hij; simp [hj]
    · rw [if_neg hij]
      simp only [Option.map_some, Option.some.injEq]
      by_cases h1 : j < i
      · rw [if_pos h1, if_pos (by omega)]
      · rw [if_neg h1, if_neg (by omega)]
  · rw [List.getElem?_eq_none (by simpa using hj)]
    by_cases hij : i = j
    · subst hij; simp [hj]
    · rw [if_neg hij]; rfl
theorem mix_keep {β : Type} {f h : Nat → β} {n i : Nat} (e : f i = h i) : mix f h n i = mix f h n (i + 1) := by
  refine List.map_congr_left fun v hv => ?_
  by_cases h1 : v < i
  · rw [if_pos h1, if_pos (by omega)]
  · by_cases h2 : v = i
    · subst h2; rw [if_neg h1, if_pos (by omega), e]
    · rw [if_neg h1, if_neg (by omega)]
theorem mix_zero {β : Type} {f : Nat → β} {x : List β} {d : β} : mix f (fun v => x.getD v d) x.length 0 = x := by
  refine List.ext_getElem (by simp [mix]) fun j h1 h2 => ?_
  simp [mix, List.getD_eq_getElem?_getD, h2]
theorem mix_all {β : Type} {f h : Nat → β} {n : Nat} : mix f h n n = (List.range n).map f := by
  refine List.map_congr_left fun v hv => ?_
  rw [if_pos (List.mem_range.1 hv)]

/-- The positions that are kept, below n. -/
def kp (k : List Bool) (n : Nat) : List Nat := (List.range n).filter fun v => k.getD v false
theorem kp_succ {k : List Bool} {n : Nat} : kp k (n + 1) = if k.getD n false = true then kp k n ++ [n] else kp k n := by
  unfold kp
  rw [List.range_succ, List.filter_append]
  cases h : k.getD n false with
  | true => rw [if_pos rfl]; congr 1; simp only [List.filter_cons, h, List.filter_nil]; rfl
  | false => rw [if_neg (by decide)]; simp only [List.filter_cons, h, List.filter_nil]; exact List.append_nil _
theorem kp_lt {k : List Bool} {n v : Nat} (h : v ∈ kp k n) : v < n := List.mem_range.1 (List.mem_filter.1 h).1
theorem kp_len {k : List Bool} {n : Nat} : (kp k n).length ≤ n := by
  have := List.length_filter_le (fun v => k.getD v false) (List.range n)
  rw [List.length_range] at this; exact this


end Go.Proofs.Ytinfflpephioiaa.Cal
