/- How a player forces a play into a set: what the search finds. Plain Lean. -/
import Derived.Test.YtgminhedbeblpaaW12c
import Derived.Test.YtgminhedbeblpaaPl1
set_option linter.unusedVariables false
set_option linter.unusedSimpArgs false
namespace Go.Proofs.Ytgminhedbeblpaa.Cal
open Go Pl

/-- The positions below i that have a move to t, in order, as often as they have it. -/
def bkI (x : List (List Int)) (t : Nat) : Nat → List Int
  | 0 => []
  | i + 1 => bkI x t i ++ List.replicate ((x.getD i []).count (t : Int)) (i : Int)
def bkJ (x : List (List Int)) (t i j : Nat) : List Int := bkI x t i ++ List.replicate (((x.getD i []).take j).count (t : Int)) (i : Int)
def backL (x : List (List Int)) : List (List Int) := (List.range x.length).map fun t => bkI x t x.length
theorem bkI_len {x : List (List Int)} {t : Nat} (h : ∀ v, v < x.length → (x.getD v []).length ≤ 64) : ∀ i, i ≤ x.length → (bkI x t i).length ≤ 64 * i
  | 0, _ => by simp [bkI]
  | i + 1, hi => by
    have h1 := bkI_len (t := t) h i (by omega)
    have h2 : (x.getD i []).count (t : Int) ≤ (x.getD i []).length := List.count_le_length
    have h3 := h i (by omega)
    simp only [bkI, List.length_append, List.length_replicate]
    omega
theorem bkJ_zero {x : List (List Int)} {t i : Nat} : bkJ x t i 0 = bkI x t i := by simp [bkJ]
theorem bkJ_all {x : List (List Int)} {t i : Nat} : bkJ x t i (x.getD i []).length = bkI x t (i + 1) := by
  unfold bkJ; rw [List.take_length]; rfl
theorem bkJ_succ {x : List (List Int)} {t i j : Nat} (h : j < (x.getD i []).length) : bkJ x t i (j + 1) = if (x.getD i []).getD j 0 = (t : Int) then bkJ x t i j ++ [(i : Int)] else bkJ x t i j := by
  unfold bkJ
  rw [take1 (d := 0) h, List.count_append]
  by_cases he : (x.getD i []).getD j 0 = (t : Int)
  · rw [if_pos he, he, List.count_singleton_self, List.replicate_succ', List.append_assoc]
  · rw [if_neg he, List.count_singleton]
    have : ((x.getD i []).getD j 0 == (t : Int)) = false := by simpa using he
    rw [this]; simp
theorem map_set {β : Type} {f f' : Nat → β} {n t : Nat} {y : β} (h1 : t < n → f' t = y) (h2 : ∀ s, s ≠ t → f' s = f s) : ((List.range n).map f).set t y = (List.range n).map f' := by
  refine List.ext_getElem (by simp) fun j a b => ?_
  simp only [List.length_set, List.length_map, List.length_range] at a
  rw [List.getElem_set]
  split
  · rename_i e; subst e; simp [h1 a]
  · rename_i e; simp [h2 j (Ne.symm e)]

def sc (x : List (List Int)) (u : Nat) : List Nat := (x.getD u []).map Int.toNat
/-- Whether the move from u to t has been looked at: the first i of the queue, and those in 'dn' for the next one. -/
def pe (q : List Nat) (i : Nat) (dn : List Nat) (u t : Nat) : Prop := t ∈ q.take i ∨ (q[i]? = some t ∧ u ∈ dn)
open Classical in
noncomputable def peB (q : List Nat) (i : Nat) (dn : List Nat) (u t : Nat) : Bool := decide (pe q i dn u t)

/-- What holds while the search goes on, at level d. -/
structure BI (g : Gm) (p : Int) (to : List Bool) (S Lf : List Int) (q : List Nat) (i : Nat) (dn : List Nat) (d : Int) : Prop where
  ls : S.length = g.own.length
  ll : Lf.length = g.own.length
  nd : q.Nodup
  qb : ∀ u, u ∈ q → u < g.own.length
  iq : i ≤ q.length
  d0 : 0 ≤ d
  dq : d ≤ i
  sq : ∀ u, u < g.own.length → (0 ≤ S.getD u 0 ↔ u ∈ q)
  s0 : ∀ u, u < g.own.length → (S.getD u 0 = 0 ↔ to.getD u false = true)
  sl : ∀ u, u < g.own.length → -1 ≤ S.getD u 0
  su : ∀ u, u < g.own.length → S.getD u 0 ≤ d + 1
  lf : ∀ u, u < g.own.length → Lf.getD u 0 = (((sc g.nxt u).filter fun t => !(peB q i dn u t)).length : Int)
  p1 : ∀ t, t ∈ q.take i → S.getD t 0 ≤ d
  p2 : ∀ t, t ∈ q.drop i → d ≤ S.getD t 0
  pv : ∀ t, q[i]? = some t → S.getD t 0 = d
  c0p : ∀ u, u < g.own.length → u ∉ q → g.own.getD u 0 = p → ∀ t, t ∈ sc g.nxt u → ¬ pe q i dn u t
  c0o : ∀ u, u < g.own.length → u ∉ q → g.own.getD u 0 ≠ p → ∃ t, t ∈ sc g.nxt u ∧ ¬ pe q i dn u t
  c3p : ∀ u, u ∈ q → 0 < S.getD u 0 → g.own.getD u 0 = p → (∃ t, t ∈ sc g.nxt u ∧ S.getD t 0 = S.getD u 0 - 1) ∧ ∀ t, t ∈ sc g.nxt u → t ∈ q → S.getD u 0 - 1 ≤ S.getD t 0
  c3o : ∀ u, u ∈ q → 0 < S.getD u 0 → g.own.getD u 0 ≠ p → (∃ t, t ∈ sc g.nxt u ∧ S.getD t 0 = S.getD u 0 - 1) ∧ ∀ t, t ∈ sc g.nxt u → t ∈ q ∧ S.getD t 0 ≤ S.getD u 0 - 1
  mo : q.Pairwise fun a b => S.getD a 0 ≤ S.getD b 0

structure BS where
  st : List Int
  lf : List Int
  q : List Nat
  i : Nat
def BO (g : Gm) (p : Int) (to : List Bool) (b : BS) : Prop := ∃ d, BI g p to b.st b.lf b.q b.i [] d

structure IS where
  st : List Int
  lf : List Int
  q : List Nat
  r : Nat

theorem getD_setI {xs : List Int} {i j : Nat} {v : Int} (hi : i < xs.length) : (xs.set i v).getD j 0 = if j = i then v else xs.getD j 0 := getD_set hi

theorem cnt_drop {P P' : Nat → Bool} {v : Nat} (h : ∀ t, P' t = (P t || t == v)) (hP : P v = false) : ∀ {l : List Nat}, l.Nodup → v ∈ l → ((l.filter fun t => !(P' t)).length : Int) = (l.filter fun t => !(P t)).length - 1
  | [], _, hv => absurd hv List.not_mem_nil
  | a :: t, hn, hv => by
    rw [List.nodup_cons] at hn
    by_cases ha : a = v
    · subst ha
      have ht : ∀ x, x ∈ t → (!(P' x)) = !(P x) := fun x hx => by
        have : x ≠ a := fun e => hn.1 (e ▸ hx)
        rw [h x]; simp [this]
      rw [List.filter_cons, List.filter_cons, hP, h a]
      simp only [beq_self_eq_true, Bool.or_true, Bool.not_true, Bool.false_eq_true, if_false, Bool.not_false, if_true, List.length_cons, List.filter_congr ht]
      omega
    · have hv' : v ∈ t := (List.mem_cons.1 hv).resolve_left (fun e => ha e.symm)
      have ih := cnt_drop h hP hn.2 hv'
      have hPa : P' a = P a := by rw [h a]; simp [ha]
      rw [List.filter_cons, List.filter_cons, hPa]
      cases hb : P a with
      | true => simpa [hb] using ih
      | false => simp only [Bool.not_false, if_true, List.length_cons]; omega
theorem pe_iff {q : List Nat} {i : Nat} {dn : List Nat} {u t : Nat} : peB q i dn u t = true ↔ pe q i dn u t := by
  classical
  unfold peB; exact decide_eq_true_iff
theorem peB_false {q : List Nat} {i : Nat} {dn : List Nat} {u t : Nat} (h : ¬ pe q i dn u t) : peB q i dn u t = false := by
  cases hb : peB q i dn u t with
  | false => rfl
  | true => exact absurd (pe_iff.1 hb) h
theorem peB_congr {q q' : List Nat} {i i' : Nat} {dn dn' : List Nat} {u t : Nat} (h : pe q i dn u t ↔ pe q' i' dn' u t) : peB q i dn u t = peB q' i' dn' u t := by
  rw [Bool.eq_iff_iff, pe_iff, pe_iff]; exact h
/-- The move from u to v has been looked at. -/
theorem pe_upd {q q' : List Nat} {i v u : Nat} {dn : List Nat} (h1 : q'.take i = q.take i) (h2 : q'[i]? = some v) (h3 : q[i]? = some v) (u' t : Nat) : pe q' i (dn ++ [u]) u' t ↔ pe q i dn u' t ∨ (u' = u ∧ t = v) := by
  unfold pe
  rw [h1, h2, h3]
  simp only [Option.some.injEq, List.mem_append, List.mem_singleton]
  constructor
  · rintro (h | ⟨h, h4 | h4⟩)
    · exact .inl (.inl h)
    · exact .inl (.inr ⟨h, h4⟩)
    · exact .inr ⟨h4, h.symm⟩
  · rintro ((h | ⟨h, h4⟩) | ⟨h4, h⟩)
    · exact .inl h
    · exact .inr ⟨h, .inl h4⟩
    · exact .inr ⟨h.symm, .inr h4⟩
theorem not_take {q : List Nat} {i v : Nat} (hn : q.Nodup) (h : q[i]? = some v) : v ∉ q.take i := by
  intro hm
  obtain ⟨j, hj, e⟩ := List.getElem_of_mem hm
  rw [List.length_take] at hj
  rw [List.getElem_take] at e
  obtain ⟨hi, e2⟩ := List.getElem?_eq_some_iff.1 h
  exact List.pairwise_iff_getElem.1 hn j i (by omega) hi (by omega) (e.trans e2.symm)
theorem lf_upd {g : Gm} {S L : List Int} {q q' : List Nat} {i v u : Nat} {dn : List Nat} (hl : L.length = g.own.length) (hn : q.Nodup) (hlf : ∀ u, u < g.own.length → L.getD u 0 = (((sc g.nxt u).filter fun t => !(peB q i dn u t)).length : Int))
    (h1 : q'.take i = q.take i) (h2 : q'[i]? = some v) (h3 : q[i]? = some v) (hu : u < g.own.length) (hvu : v ∈ sc g.nxt u) (hnd : (sc g.nxt u).Nodup) (hdn : u ∉ dn) :
    ∀ u', u' < g.own.length → (L.set u (L.getD u 0 - 1)).getD u' 0 = (((sc g.nxt u').filter fun t => !(peB q' i (dn ++ [u]) u' t)).length : Int) := by
  intro u' hu'
  rw [getD_setI (by omega)]
  have hv0 : ¬ pe q i dn u v := by
    rintro (h | ⟨_, h⟩)
    · exact not_take hn h3 h
    · exact hdn h
  by_cases he : u' = u
  · subst he
    rw [if_pos rfl, hlf u' hu]
    refine (cnt_drop (fun t => ?_) (peB_false hv0) hnd hvu).symm
    rw [Bool.eq_iff_iff, pe_iff, pe_upd h1 h2 h3, Bool.or_eq_true, pe_iff, beq_iff_eq]
    exact ⟨fun h => h.imp id (fun h => h.2), fun h => h.imp id (fun h => ⟨rfl, h⟩)⟩
  · rw [if_neg he, hlf u' hu']
    congr 2
    refine List.filter_congr fun t _ => ?_
    rw [peB_congr]
    rw [pe_upd h1 h2 h3]
    exact ⟨.inl, fun h => h.resolve_right (fun h => he h.1)⟩

theorem BI_skip {g : Gm} {p : Int} {to : List Bool} {S L : List Int} {q : List Nat} {i v u : Nat} {dn : List Nat} {d : Int} (h : BI g p to S L q i dn d) (hq : q[i]? = some v) (hu : u < g.own.length) (hvu : v ∈ sc g.nxt u) (hnd : (sc g.nxt u).Nodup) (hdn : u ∉ dn)
    (hc : ¬ (S.getD u 0 < 0 ∧ (g.own.getD u 0 = p ∨ L.getD u 0 - 1 = 0))) : BI g p to S (L.set u (L.getD u 0 - 1)) q i (dn ++ [u]) d := by
  have hlf := lf_upd (S := S) h.ll h.nd h.lf rfl hq hq hu hvu hnd hdn
  have hne : ∀ u' t, u' ≠ u → (pe q i (dn ++ [u]) u' t ↔ pe q i dn u' t) := fun u' t hn => by
    rw [pe_upd rfl hq hq]; exact ⟨fun h => h.resolve_right (fun h => hn h.1), .inl⟩
  have hSu : u ∉ q → S.getD u 0 < 0 := fun hn => by
    have := mt (h.sq u hu).1 hn
    omega
  refine ⟨h.ls, by rw [List.length_set]; exact h.ll, h.nd, h.qb, h.iq, h.d0, h.dq, h.sq, h.s0, h.sl, h.su, hlf, h.p1, h.p2, h.pv, fun u' hu' hn ho t ht => ?_, fun u' hu' hn ho => ?_, h.c3p, h.c3o, h.mo⟩
  · by_cases he : u' = u
    · subst he
      exact absurd ⟨hSu hn, .inl ho⟩ hc
    · rw [hne u' t he]; exact h.c0p u' hu' hn ho t ht
  · by_cases he : u' = u
    · subst he
      have hz : L.getD u' 0 - 1 ≠ 0 := fun e => hc ⟨hSu hn, .inr e⟩
      have h1 := hlf u' hu'
      rw [getD_setI (by rw [h.ll]; exact hu'), if_pos rfl] at h1
      have h2 : 0 < ((sc g.nxt u').filter fun t => !(peB q i (dn ++ [u']) u' t)).length := by omega
      obtain ⟨t, ht⟩ := List.exists_mem_of_length_pos h2
      obtain ⟨h3, h4⟩ := List.mem_filter.1 ht
      exact ⟨t, h3, fun hp => by rw [pe_iff.2 hp] at h4; cases h4⟩
    · obtain ⟨t, h1, h2⟩ := h.c0o u' hu' hn ho
      exact ⟨t, h1, fun hp => h2 ((hne u' t he).1 hp)⟩
theorem BI_add {g : Gm} {p : Int} {to : List Bool} {S L : List Int} {q : List Nat} {i v u : Nat} {dn : List Nat} {d : Int} (h : BI g p to S L q i dn d) (hq : q[i]? = some v) (hu : u < g.own.length) (hvu : v ∈ sc g.nxt u) (hnd : (sc g.nxt u).Nodup) (hdn : u ∉ dn)
    (hc : S.getD u 0 < 0) (hc2 : g.own.getD u 0 = p ∨ L.getD u 0 - 1 = 0) : BI g p to (S.set u (S.getD v 0 + 1)) (L.set u (L.getD u 0 - 1)) (q ++ [u]) i (dn ++ [u]) d := by
  have huq : u ∉ q := fun hm => by have := (h.sq u hu).2 hm; omega
  have hiq : i < q.length := (List.getElem?_eq_some_iff.1 hq).1
  have htk : (q ++ [u]).take i = q.take i := by rw [List.take_append_of_le_length (by omega)]
  have hgi : (q ++ [u])[i]? = some v := by rw [List.getElem?_append_left hiq]; exact hq
  have hvq : v ∈ q := List.mem_of_getElem? hq
  have hlf := lf_upd (S := S) h.ll h.nd h.lf htk hgi hq hu hvu hnd hdn
  have hSv := h.pv v hq
  have hls := h.ls
  have hd0 := h.d0
  have hdq := h.dq
  have hS : ∀ t, (S.set u (S.getD v 0 + 1)).getD t 0 = if t = u then d + 1 else S.getD t 0 := fun t => by rw [getD_setI (by omega), hSv]
  have hSn : ∀ t, t ≠ u → (S.set u (S.getD v 0 + 1)).getD t 0 = S.getD t 0 := fun t ht => by rw [hS t, if_neg ht]
  have hSu : (S.set u (S.getD v 0 + 1)).getD u 0 = d + 1 := by rw [hS u, if_pos rfl]
  have hSq : ∀ t, t ∈ q → (S.set u (S.getD v 0 + 1)).getD t 0 = S.getD t 0 := fun t ht => hSn t (fun e => huq (e ▸ ht))
  have hne : ∀ u' t, u' ≠ u → (pe (q ++ [u]) i (dn ++ [u]) u' t ↔ pe q i dn u' t) := fun u' t hn => by
    rw [pe_upd htk hgi hq]; exact ⟨fun h => h.resolve_right (fun h => hn h.1), .inl⟩
  have hmem : ∀ {t}, t ∈ q ++ [u] ↔ t ∈ q ∨ t = u := fun {t} => by rw [List.mem_append, List.mem_singleton]
  refine ⟨by rw [List.length_set]; exact hls, by rw [List.length_set]; exact h.ll, ?_, ?_, by rw [List.length_append]; omega, hd0, hdq, ?_, ?_, ?_, ?_, hlf, ?_, ?_, ?_, ?_, ?_, ?_, ?_, ?_⟩
  · rw [List.nodup_append]
    exact ⟨h.nd, by simp, fun a ha b hb => by rw [List.mem_singleton.1 hb]; exact fun e => huq (e ▸ ha)⟩
  · intro t ht
    rcases hmem.1 ht with ht | rfl
    · exact h.qb t ht
    · exact hu
  · intro t ht
    rw [hmem, hS t]
    by_cases he : t = u
    · rw [if_pos he]; exact ⟨fun _ => .inr he, fun _ => by omega⟩
    · rw [if_neg he]; exact ⟨fun h1 => .inl ((h.sq t ht).1 h1), fun h1 => (h.sq t ht).2 (h1.resolve_right he)⟩
  · intro t ht
    rw [hS t]
    by_cases he : t = u
    · subst he
      rw [if_pos rfl]
      refine ⟨fun e => by omega, fun e => ?_⟩
      have := (h.s0 t ht).2 e
      omega
    · rw [if_neg he]; exact h.s0 t ht
  · intro t ht
    rw [hS t]
    split
    · omega
    · exact h.sl t ht
  · intro t ht
    rw [hS t]
    split
    · omega
    · exact h.su t ht
  · intro t ht
    rw [htk] at ht
    rw [hSq t (List.mem_of_mem_take ht)]
    exact h.p1 t ht
  · intro t ht
    rw [List.drop_append_of_le_length (by omega), List.mem_append, List.mem_singleton] at ht
    rcases ht with ht | rfl
    · rw [hSq t (List.mem_of_mem_drop ht)]; exact h.p2 t ht
    · rw [hSu]; omega
  · intro t ht
    rw [hgi] at ht
    cases ht
    rw [hSq v hvq]; exact hSv
  · intro u' hu' hn ho t ht
    have hn2 : u' ≠ u := fun e => hn (hmem.2 (.inr e))
    rw [hne u' t hn2]
    exact h.c0p u' hu' (fun hm => hn (hmem.2 (.inl hm))) ho t ht
  · intro u' hu' hn ho
    have hn2 : u' ≠ u := fun e => hn (hmem.2 (.inr e))
    obtain ⟨t, h1, h2⟩ := h.c0o u' hu' (fun hm => hn (hmem.2 (.inl hm))) ho
    exact ⟨t, h1, fun hp => h2 ((hne u' t hn2).1 hp)⟩
  · intro u' hu' hpos ho
    by_cases he : u' = u
    · subst he
      rw [hSu]
      refine ⟨⟨v, hvu, by rw [hSq v hvq]; omega⟩, fun t ht htq => ?_⟩
      rcases hmem.1 htq with htq | rfl
      · rw [hSq t htq]
        have hnp := h.c0p u' hu huq ho t ht
        have : t ∈ q.drop i := by
          have h1 : t ∈ q.take i ++ q.drop i := by rw [List.take_append_drop]; exact htq
          exact (List.mem_append.1 h1).resolve_left (fun h2 => hnp (.inl h2))
        have := h.p2 t this
        omega
      · rw [hSu]; omega
    · have huq' : u' ∈ q := (hmem.1 hu').resolve_right he
      rw [hSq u' huq'] at hpos ⊢
      obtain ⟨⟨t, h1, h2⟩, h3⟩ := h.c3p u' huq' hpos ho
      refine ⟨⟨t, h1, ?_⟩, fun t ht htq => ?_⟩
      · rw [hSn t (fun e => by subst e; omega)]; exact h2
      · rcases hmem.1 htq with htq | rfl
        · rw [hSq t htq]; exact h3 t ht htq
        · rw [hSu]
          have := h.su u' (h.qb u' huq')
          omega
  · intro u' hu' hpos ho
    by_cases he : u' = u
    · subst he
      rw [hSu]
      refine ⟨⟨v, hvu, by rw [hSq v hvq]; omega⟩, fun t ht => ?_⟩
      have hz : L.getD u' 0 - 1 = 0 := hc2.resolve_left ho
      have h1 := hlf u' hu
      rw [getD_setI (by rw [h.ll]; exact hu), if_pos rfl, hz] at h1
      have h2 : ((sc g.nxt u').filter fun t => !(peB (q ++ [u']) i (dn ++ [u']) u' t)) = [] := List.length_eq_zero_iff.1 (by omega)
      have h3 : pe (q ++ [u']) i (dn ++ [u']) u' t := by
        refine Classical.byContradiction fun hn => ?_
        have : t ∈ (sc g.nxt u').filter fun t => !(peB (q ++ [u']) i (dn ++ [u']) u' t) := List.mem_filter.2 ⟨ht, by rw [peB_false hn]; rfl⟩
        rw [h2] at this; cases this
      rw [pe_upd htk hgi hq] at h3
      have h4 : t ∈ q ∧ S.getD t 0 ≤ d := by
        rcases h3 with (h5 | ⟨_, h5⟩) | ⟨_, rfl⟩
        · exact ⟨List.mem_of_mem_take h5, h.p1 t h5⟩
        · exact absurd h5 hdn
        · exact ⟨hvq, by omega⟩
      exact ⟨hmem.2 (.inl h4.1), by rw [hSq t h4.1]; omega⟩
    · have huq' : u' ∈ q := (hmem.1 hu').resolve_right he
      rw [hSq u' huq'] at hpos ⊢
      obtain ⟨⟨t, h1, h2⟩, h3⟩ := h.c3o u' huq' hpos ho
      refine ⟨⟨t, h1, ?_⟩, fun t ht => ?_⟩
      · rw [hSn t (fun e => by subst e; omega)]; exact h2
      · obtain ⟨h4, h5⟩ := h3 t ht
        exact ⟨hmem.2 (.inl h4), by rw [hSq t h4]; exact h5⟩
  · rw [List.pairwise_append]
    refine ⟨List.Pairwise.imp_of_mem (fun {a b} ha hb hab => by rw [hSq a ha, hSq b hb]; exact hab) h.mo, List.pairwise_singleton _ _, fun a ha b hb => ?_⟩
    rw [List.mem_singleton.1 hb, hSu, hSq a ha]
    exact h.su a (h.qb a ha)
theorem BI_start {g : Gm} {p : Int} {to : List Bool} {S L : List Int} {q : List Nat} {i : Nat} (h : BO g p to ⟨S, L, q, i⟩) (hi : i < q.length) : ∃ d, BI g p to S L q i [] d := h
theorem BI_end {g : Gm} {p : Int} {to : List Bool} {S L : List Int} {q : List Nat} {i v : Nat} {dn : List Nat} {d : Int} (h : BI g p to S L q i dn d) (hq : q[i]? = some v) (hall : ∀ u, u < g.own.length → v ∈ sc g.nxt u → u ∈ dn) : BO g p to ⟨S, L, q, i + 1⟩ := by
  have hiq : i < q.length := (List.getElem?_eq_some_iff.1 hq).1
  have htk : q.take (i + 1) = q.take i ++ [v] := by rw [List.take_add_one, hq]; rfl
  have hSv := h.pv v hq
  obtain ⟨d', hd', hdd, hdi, hp2, hpv⟩ : ∃ d' : Int, d ≤ d' ∧ d' ≤ d + 1 ∧ d' ≤ (i + 1 : Nat) ∧ (∀ t, t ∈ q.drop (i + 1) → d' ≤ S.getD t 0) ∧ (∀ t, q[i + 1]? = some t → S.getD t 0 = d') := by
    have hdq := h.dq
    cases he : q[i + 1]? with
    | none => exact ⟨d, by omega, by omega, by omega, fun t ht => h.p2 t (List.mem_of_mem_drop (i := 1) (by rw [List.drop_drop]; exact ht)), fun t ht => by cases ht⟩
    | some t0 =>
      obtain ⟨hi1, e1⟩ := List.getElem?_eq_some_iff.1 he
      have hdr : q.drop (i + 1) = t0 :: q.drop (i + 2) := by rw [List.drop_eq_getElem_cons hi1, e1]
      have ht0 : t0 ∈ q.drop i := by
        have : t0 ∈ q.drop (i + 1) := by rw [hdr]; exact List.mem_cons_self
        exact List.mem_of_mem_drop (i := 1) (by rw [List.drop_drop]; exact this)
      have h1 := h.p2 t0 ht0
      have h2 := h.su t0 (h.qb t0 (List.mem_of_mem_drop ht0))
      refine ⟨S.getD t0 0, h1, h2, by omega, fun t ht => ?_, fun t ht => by cases ht; rfl⟩
      have hm : (q.drop (i + 1)).Pairwise fun a b => S.getD a 0 ≤ S.getD b 0 := h.mo.drop
      rw [hdr] at hm ht
      rcases List.mem_cons.1 ht with rfl | ht
      · exact Int.le_refl _
      · exact (List.pairwise_cons.1 hm).1 t ht
  have hpe : ∀ u t, u < g.own.length → t ∈ sc g.nxt u → (pe q (i + 1) [] u t ↔ pe q i dn u t) := fun u t hu ht => by
    unfold pe
    rw [htk, hq]
    simp only [List.mem_append, List.mem_singleton, List.not_mem_nil, and_false, or_false, Option.some.injEq]
    constructor
    · rintro (h1 | rfl)
      · exact .inl h1
      · exact .inr ⟨rfl, hall u hu ht⟩
    · rintro (h1 | ⟨rfl, _⟩)
      · exact .inl h1
      · exact .inr rfl
  have hd0 := h.d0
  refine ⟨d', h.ls, h.ll, h.nd, h.qb, hiq, by omega, hdi, h.sq, h.s0, h.sl, fun u hu => by have := h.su u hu; dsimp only; omega, fun u hu => ?_, fun t ht => ?_, hp2, hpv, fun u hu hn ho t ht hp => h.c0p u hu hn ho t ht ((hpe u t hu ht).1 hp), fun u hu hn ho => ?_, h.c3p, h.c3o, h.mo⟩
  · rw [h.lf u hu]
    congr 2
    exact List.filter_congr fun t ht => by rw [peB_congr (hpe u t hu ht)]
  · dsimp only at ht ⊢
    rw [htk, List.mem_append, List.mem_singleton] at ht
    rcases ht with ht | rfl
    · have := h.p1 t ht; omega
    · omega
  · obtain ⟨t, h1, h2⟩ := h.c0o u hu hn ho
    exact ⟨t, h1, fun hp => h2 ((hpe u t hu h1).1 hp)⟩
theorem BI_begin {g : Gm} {p : Int} {to : List Bool} (hV : Valid g) (ht : to.length = g.own.length) : BO g p to ⟨(List.range g.own.length).map (fun v => if to.getD v false = true then (0 : Int) else -1), (List.range g.own.length).map (fun v => ((g.nxt.getD v []).length : Int)), kp to g.own.length, 0⟩ := by
  have hS : ∀ u, u < g.own.length → ((List.range g.own.length).map (fun v => if to.getD v false = true then (0 : Int) else -1)).getD u 0 = if to.getD u false = true then 0 else -1 := fun u hu => by
    rw [List.getD_eq_getElem?_getD, List.getElem?_map, List.getElem?_range hu]; rfl
  have hq : ∀ u, u ∈ kp to g.own.length ↔ u < g.own.length ∧ to.getD u false = true := fun u => by
    unfold kp; rw [List.mem_filter, List.mem_range]
  have hnp : ∀ u t, ¬ pe (kp to g.own.length) 0 [] u t := fun u t => by
    rintro (h | ⟨_, h⟩)
    · simp at h
    · cases h
  refine ⟨0, ?_⟩
  dsimp only
  refine ⟨by simp, by simp, List.Pairwise.filter _ List.nodup_range, fun u hu => ((hq u).1 hu).1, Nat.zero_le _, Int.le_refl _, Int.le_refl _, fun u hu => ?_, fun u hu => ?_, fun u hu => ?_, fun u hu => ?_, fun u hu => ?_, fun t ht => by simp at ht, fun t ht => ?_, fun t ht => ?_, fun u hu hn ho t ht => hnp u t, fun u hu hn ho => ?_, fun u hu hpos => ?_, fun u hu hpos => ?_, ?_⟩
  · rw [hS u hu, hq]
    by_cases h : to.getD u false = true
    · rw [if_pos h]; exact ⟨fun _ => ⟨hu, h⟩, fun _ => Int.le_refl _⟩
    · rw [if_neg h]; exact ⟨fun h1 => by omega, fun h1 => absurd h1.2 h⟩
  · rw [hS u hu]
    by_cases h : to.getD u false = true
    · rw [if_pos h]; exact ⟨fun _ => h, fun _ => rfl⟩
    · rw [if_neg h]; exact ⟨fun h1 => by omega, fun h1 => absurd h1 h⟩
  · rw [hS u hu]; split <;> omega
  · rw [hS u hu]; split <;> omega
  · have hf : ((sc g.nxt u).filter fun t => !(peB (kp to g.own.length) 0 [] u t)) = sc g.nxt u := List.filter_eq_self.2 fun t _ => by rw [peB_false (hnp u t)]; rfl
    rw [hf, List.getD_eq_getElem?_getD, List.getElem?_map, List.getElem?_range hu]
    simp [sc]
  · have ht := (hq t).1 (List.mem_of_mem_drop ht)
    rw [hS t ht.1, if_pos ht.2]; exact Int.le_refl _
  · have ht := (hq t).1 (List.mem_of_getElem? ht)
    rw [hS t ht.1, if_pos ht.2]
  · obtain ⟨⟨_, _, _, _, h1, _⟩, _⟩ := hV.2.2.2 u hu
    have h2 : 0 < (sc g.nxt u).length := by unfold sc; rw [List.length_map]; exact h1
    obtain ⟨t, ht⟩ := List.exists_mem_of_length_pos h2
    exact ⟨t, ht, hnp u t⟩
  · have hu := ((hq u).1 hu).1
    rw [hS u hu] at hpos
    split at hpos <;> omega
  · have hu := ((hq u).1 hu).1
    rw [hS u hu] at hpos
    split at hpos <;> omega
  · refine List.Pairwise.imp_of_mem (R := (· ≠ ·)) (fun {a b} ha hb _ => ?_) (List.Pairwise.filter _ List.nodup_range)
    have ha := (hq a).1 ha
    have hb := (hq b).1 hb
    rw [hS a ha.1, hS b hb.1, if_pos ha.2, if_pos hb.2]; exact Int.le_refl _
theorem BI_left {g : Gm} {p : Int} {to : List Bool} {S L : List Int} {q : List Nat} {i : Nat} {dn : List Nat} {d : Int} (h : BI g p to S L q i dn d) {u : Nat} (hu : u < g.own.length) (hx : (g.nxt.getD u []).length ≤ 64) : 0 ≤ L.getD u 0 ∧ L.getD u 0 ≤ 64 := by
  rw [h.lf u hu]
  have : ((sc g.nxt u).filter fun t => !(peB q i dn u t)).length ≤ (sc g.nxt u).length := List.length_filter_le _ _
  have h2 : (sc g.nxt u).length = (g.nxt.getD u []).length := List.length_map ..
  omega
/-- A row of a game goes upwards. -/
theorem row_up {n : Nat} : ∀ {l : List Int}, (∀ i, i < l.length → rowOK n l i) → l.Pairwise (· < ·)
  | [], _ => List.Pairwise.nil
  | [a], _ => List.pairwise_singleton _ _
  | a :: b :: t, h => by
    have h1 : (b :: t).Pairwise (· < ·) := row_up (l := b :: t) fun i hi => by
      have := h (i + 1) (by simpa using hi)
      obtain ⟨r1, r2, r3⟩ := this
      refine ⟨r1, r2, fun h0 => ?_⟩
      obtain ⟨j, rfl⟩ : ∃ j, i = j + 1 := ⟨i - 1, by omega⟩
      exact r3 (Nat.succ_pos _)
    have hab : a < b := (h 1 (by simp)).2.2 (Nat.succ_pos _)
    refine List.pairwise_cons.2 ⟨fun c hc => ?_, h1⟩
    rcases List.mem_cons.1 hc with rfl | hc
    · exact hab
    · have := (List.pairwise_cons.1 h1).1 c hc
      omega
theorem row_of {g : Gm} (hV : Valid g) {u : Nat} (hu : u < g.own.length) : (g.nxt.getD u []).Pairwise (· < ·) ∧ ∀ a, a ∈ g.nxt.getD u [] → 0 ≤ a ∧ a < g.own.length := by
  obtain ⟨_, hr⟩ := hV.2.2.2 u hu
  refine ⟨row_up hr, fun a ha => ?_⟩
  obtain ⟨i, hi, rfl⟩ := List.getElem_of_mem ha
  have := hr i hi
  obtain ⟨r1, r2, _⟩ := this
  simp only [Gm.x, Gm.n] at r1 r2
  rw [List.getD_eq_getElem?_getD, List.getElem?_eq_getElem hi, Option.getD_some] at r1 r2
  exact ⟨r1, r2⟩
theorem sc_lt {g : Gm} (hV : Valid g) {u : Nat} (hu : u < g.own.length) {t : Nat} (ht : t ∈ sc g.nxt u) : t < g.own.length := by
  obtain ⟨a, ha, rfl⟩ := List.mem_map.1 ht
  have := (row_of hV hu).2 a ha
  omega
theorem sc_mem {g : Gm} (hV : Valid g) {u v : Nat} (hu : u < g.own.length) : v ∈ sc g.nxt u ↔ (v : Int) ∈ g.nxt.getD u [] := by
  constructor
  · intro h
    obtain ⟨a, ha, rfl⟩ := List.mem_map.1 h
    have := (row_of hV hu).2 a ha
    rwa [Int.toNat_of_nonneg this.1]
  · intro h
    exact List.mem_map.2 ⟨v, h, Int.toNat_natCast v⟩
theorem cnt_one {a : Int} : ∀ {l : List Int}, l.Pairwise (· < ·) → l.count a ≤ 1
  | [], _ => Nat.zero_le _
  | b :: t, h => by
    obtain ⟨h1, h2⟩ := List.pairwise_cons.1 h
    rw [List.count_cons]
    by_cases he : b = a
    · subst he
      have : t.count b = 0 := List.count_eq_zero.2 fun hm => by have := h1 b hm; omega
      rw [this]; simp
    · have := cnt_one (a := a) h2
      have hf : (b == a) = false := by simpa using he
      rw [hf]; simpa using this
theorem bkI_up {g : Gm} (hV : Valid g) {t : Nat} : ∀ i, i ≤ g.own.length → (bkI g.nxt t i).Pairwise (· < ·) ∧ (∀ a, a ∈ bkI g.nxt t i → 0 ≤ a ∧ a < i) ∧ (∀ v : Nat, (v : Int) ∈ bkI g.nxt t i ↔ v < i ∧ (t : Int) ∈ g.nxt.getD v [])
  | 0, _ => ⟨List.Pairwise.nil, fun a h => absurd h List.not_mem_nil, fun v => ⟨fun h => absurd h List.not_mem_nil, fun h => absurd h.1 (Nat.not_lt_zero v)⟩⟩
  | i + 1, hi => by
    obtain ⟨h1, h2, h3⟩ := bkI_up hV i (by omega) (t := t)
    have hrow := (row_of hV (u := i) (by omega)).1
    have hc : (g.nxt.getD i []).count (t : Int) ≤ 1 := cnt_one hrow
    have hcm : 0 < (g.nxt.getD i []).count (t : Int) ↔ (t : Int) ∈ g.nxt.getD i [] := List.count_pos_iff
    simp only [bkI]
    have hrep : ∀ a, a ∈ List.replicate ((g.nxt.getD i []).count (t : Int)) (i : Int) → a = i := fun a ha => (List.mem_replicate.1 ha).2
    refine ⟨List.pairwise_append.2 ⟨h1, ?_, fun a ha b hb => ?_⟩, fun a ha => ?_, fun v => ?_⟩
    · rcases Nat.eq_zero_or_pos ((g.nxt.getD i []).count (t : Int)) with h0 | h0
      · rw [h0]; exact List.Pairwise.nil
      · rw [show (g.nxt.getD i []).count (t : Int) = 1 by omega]; exact List.pairwise_singleton _ _
    · rw [hrep b hb]; exact (h2 a ha).2
    · rcases List.mem_append.1 ha with ha | ha
      · have := h2 a ha; omega
      · rw [hrep a ha]; omega
    · rw [List.mem_append, h3 v]
      constructor
      · rintro (⟨h4, h5⟩ | h4)
        · exact ⟨by omega, h5⟩
        · have e := hrep _ h4
          obtain rfl : v = i := by omega
          have := (List.mem_replicate.1 h4).1
          exact ⟨by omega, hcm.1 (by omega)⟩
      · rintro ⟨h4, h5⟩
        rcases Nat.lt_succ_iff_lt_or_eq.1 h4 with h6 | rfl
        · exact .inl ⟨h6, h5⟩
        · exact .inr (List.mem_replicate.2 ⟨by have := hcm.2 h5; omega, rfl⟩)
theorem back_is {g : Gm} (hV : Valid g) {v : Nat} (hv : v < g.own.length) : (backL g.nxt).getD v [] = bkI g.nxt v g.own.length := by
  have hx : g.nxt.length = g.own.length := hV.2.2.1
  have hv2 : v < g.nxt.length := by omega
  unfold backL
  rw [List.getD_eq_getElem?_getD, List.getElem?_map, List.getElem?_range hv2, hx]; rfl
/-- The positions ahead of one. -/
theorem back_fact {g : Gm} (hV : Valid g) {v : Nat} (hv : v < g.own.length) : ∀ r, r < ((backL g.nxt).getD v []).length → ((backL g.nxt).getD v []).getD r 0 = (((((backL g.nxt).getD v []).getD r 0).toNat : Nat) : Int) ∧ (((backL g.nxt).getD v []).getD r 0).toNat < g.own.length ∧ v ∈ sc g.nxt (((backL g.nxt).getD v []).getD r 0).toNat ∧ (((backL g.nxt).getD v []).getD r 0).toNat ∉ (((backL g.nxt).getD v []).take r).map Int.toNat := by
  rw [back_is hV hv]
  obtain ⟨h1, h2, h3⟩ := bkI_up hV g.own.length (Nat.le_refl _) (t := v)
  intro r hr
  have hm : (bkI g.nxt v g.own.length).getD r 0 ∈ bkI g.nxt v g.own.length := by
    rw [List.getD_eq_getElem?_getD, List.getElem?_eq_getElem hr]; exact List.getElem_mem hr
  obtain ⟨a1, a2⟩ := h2 _ hm
  have e : (((bkI g.nxt v g.own.length).getD r 0).toNat : Int) = (bkI g.nxt v g.own.length).getD r 0 := Int.toNat_of_nonneg a1
  have hn : ((bkI g.nxt v g.own.length).getD r 0).toNat < g.own.length := by omega
  refine ⟨e.symm, hn, ?_, fun hm2 => ?_⟩
  · rw [sc_mem hV hn]
    exact ((h3 _).1 (by rw [e]; exact hm)).2
  · obtain ⟨b, hb, e2⟩ := List.mem_map.1 hm2
    obtain ⟨j, hj, rfl⟩ := List.getElem_of_mem hb
    rw [List.length_take] at hj
    rw [List.getElem_take] at e2
    have hlt := List.pairwise_iff_getElem.1 h1 j r (by omega) hr (by omega)
    have hb0 := h2 _ (List.getElem_mem (l := bkI g.nxt v g.own.length) (n := j) (by omega))
    rw [List.getD_eq_getElem?_getD, List.getElem?_eq_getElem hr, Option.getD_some] at e2 a1
    omega
theorem back_all {g : Gm} (hV : Valid g) {v : Nat} (hv : v < g.own.length) : ∀ u, u < g.own.length → v ∈ sc g.nxt u → u ∈ ((backL g.nxt).getD v []).map Int.toNat := by
  rw [back_is hV hv]
  obtain ⟨h1, h2, h3⟩ := bkI_up hV g.own.length (Nat.le_refl _) (t := v)
  intro u hu hs
  exact List.mem_map.2 ⟨(u : Int), (h3 u).2 ⟨hu, (sc_mem hV hu).1 hs⟩, Int.toNat_natCast u⟩
theorem sc_nodup {g : Gm} (hV : Valid g) {u : Nat} (hu : u < g.own.length) : (sc g.nxt u).Nodup := by
  obtain ⟨h1, h2⟩ := row_of hV hu
  unfold sc
  rw [List.nodup_iff_pairwise_ne, List.pairwise_map]
  refine List.Pairwise.imp_of_mem (fun {a b} ha hb hab => ?_) h1
  have := h2 a ha
  have := h2 b hb
  omega

/-- What is asked of the steps: they are then the only ones. -/
structure Rank (g : Gm) (p : Int) (to : List Bool) (S : List Int) : Prop where
  ls : S.length = g.own.length
  lo : ∀ u, u < g.own.length → -1 ≤ S.getD u 0
  up : ∀ u, u < g.own.length → S.getD u 0 ≤ g.own.length + 1
  s0 : ∀ u, u < g.own.length → (S.getD u 0 = 0 ↔ to.getD u false = true)
  c0p : ∀ u, u < g.own.length → S.getD u 0 < 0 → g.own.getD u 0 = p → ∀ t, t ∈ sc g.nxt u → S.getD t 0 < 0
  c0o : ∀ u, u < g.own.length → S.getD u 0 < 0 → g.own.getD u 0 ≠ p → ∃ t, t ∈ sc g.nxt u ∧ S.getD t 0 < 0
  c3p : ∀ u, u < g.own.length → 0 < S.getD u 0 → g.own.getD u 0 = p → (∃ t, t ∈ sc g.nxt u ∧ S.getD t 0 = S.getD u 0 - 1) ∧ ∀ t, t ∈ sc g.nxt u → 0 ≤ S.getD t 0 → S.getD u 0 - 1 ≤ S.getD t 0
  c3o : ∀ u, u < g.own.length → 0 < S.getD u 0 → g.own.getD u 0 ≠ p → (∃ t, t ∈ sc g.nxt u ∧ S.getD t 0 = S.getD u 0 - 1) ∧ ∀ t, t ∈ sc g.nxt u → 0 ≤ S.getD t 0 ∧ S.getD t 0 ≤ S.getD u 0 - 1
theorem BO_rank {g : Gm} {p : Int} {to : List Bool} {S L : List Int} {q : List Nat} (hV : Valid g) (h : BO g p to ⟨S, L, q, q.length⟩) : Rank g p to S := by
  obtain ⟨d, h⟩ := h
  dsimp only at h
  have hpe : ∀ u t, pe q q.length [] u t ↔ t ∈ q := fun u t => by
    unfold pe; rw [List.take_length]; simp
  have hql : q.length ≤ g.own.length := nodup_len _ _ h.nd h.qb
  have hneg : ∀ u, u < g.own.length → S.getD u 0 < 0 → u ∉ q := fun u hu hn hm => by have := (h.sq u hu).2 hm; omega
  have hnq : ∀ u, u < g.own.length → u ∉ q → S.getD u 0 < 0 := fun u hu hn => by
    have := mt (h.sq u hu).1 hn; omega
  refine ⟨h.ls, h.sl, fun u hu => by have := h.su u hu; have := h.dq; omega, h.s0, fun u hu hn ho t ht => ?_, fun u hu hn ho => ?_, fun u hu hp ho => ?_, fun u hu hp ho => ?_⟩
  · exact hnq t (sc_lt hV hu ht) (fun hm => h.c0p u hu (hneg u hu hn) ho t ht ((hpe u t).2 hm))
  · obtain ⟨t, h1, h2⟩ := h.c0o u hu (hneg u hu hn) ho
    exact ⟨t, h1, hnq t (sc_lt hV hu h1) (fun hm => h2 ((hpe u t).2 hm))⟩
  · obtain ⟨h1, h2⟩ := h.c3p u ((h.sq u hu).1 (by omega)) hp ho
    exact ⟨h1, fun t ht h0 => h2 t ht ((h.sq t (sc_lt hV hu ht)).1 h0)⟩
  · obtain ⟨h1, h2⟩ := h.c3o u ((h.sq u hu).1 (by omega)) hp ho
    exact ⟨h1, fun t ht => ⟨(h.sq t (sc_lt hV hu ht)).2 (h2 t ht).1, (h2 t ht).2⟩⟩
theorem rank_le {g : Gm} {p : Int} {to : List Bool} {S S' : List Int} (hV : Valid g) (h : Rank g p to S) (h' : Rank g p to S') : ∀ (k : Nat) u, u < g.own.length → S.getD u 0 = k → 0 ≤ S'.getD u 0 ∧ S'.getD u 0 ≤ k := by
  intro k
  induction k using Nat.strongRecOn with
  | ind k ih =>
    intro u hu hk
    rcases Nat.eq_zero_or_pos k with rfl | hk0
    · have := (h'.s0 u hu).2 ((h.s0 u hu).1 (by omega))
      omega
    · by_cases ho : g.own.getD u 0 = p
      · obtain ⟨⟨t, ht, e⟩, _⟩ := h.c3p u hu (by omega) ho
        obtain ⟨i1, i2⟩ := ih (k - 1) (by omega) t (sc_lt hV hu ht) (by omega)
        by_cases hn : S'.getD u 0 < 0
        · have := h'.c0p u hu hn ho t ht; omega
        · refine ⟨by omega, ?_⟩
          by_cases h0 : 0 < S'.getD u 0
          · have := (h'.c3p u hu h0 ho).2 t ht i1; omega
          · omega
      · obtain ⟨_, hall⟩ := h.c3o u hu (by omega) ho
        have hle : ∀ t, t ∈ sc g.nxt u → 0 ≤ S'.getD t 0 ∧ S'.getD t 0 ≤ k - 1 := fun t ht => by
          obtain ⟨a1, a2⟩ := hall t ht
          obtain ⟨i1, i2⟩ := ih (S.getD t 0).toNat (by omega) t (sc_lt hV hu ht) (by omega)
          omega
        by_cases hn : S'.getD u 0 < 0
        · obtain ⟨t, ht, h1⟩ := h'.c0o u hu hn ho
          have := hle t ht; omega
        · refine ⟨by omega, ?_⟩
          by_cases h0 : 0 < S'.getD u 0
          · obtain ⟨⟨t, ht, e⟩, _⟩ := h'.c3o u hu h0 ho
            have := hle t ht; omega
          · omega
theorem rank_one {g : Gm} {p : Int} {to : List Bool} {S S' : List Int} (hV : Valid g) (h : Rank g p to S) (h' : Rank g p to S') : S = S' := by
  refine List.ext_getElem (by rw [h.ls, h'.ls]) fun u h1 h2 => ?_
  have hu : u < g.own.length := by rw [h.ls] at h1; exact h1
  have key : S.getD u 0 = S'.getD u 0 := by
    have l1 := h.lo u hu
    have l2 := h'.lo u hu
    by_cases h3 : 0 ≤ S.getD u 0
    · obtain ⟨a1, a2⟩ := rank_le hV h h' (S.getD u 0).toNat u hu (by omega)
      obtain ⟨b1, b2⟩ := rank_le hV h' h (S'.getD u 0).toNat u hu (by omega)
      omega
    · by_cases h4 : 0 ≤ S'.getD u 0
      · obtain ⟨b1, b2⟩ := rank_le hV h' h (S'.getD u 0).toNat u hu (by omega)
        omega
      · omega
  simpa [List.getD_eq_getElem?_getD, h1, h2] using key
open Classical in
noncomputable def rankOf (g : Gm) (p : Int) (to : List Bool) : List Int := if h : ∃ S, Rank g p to S then Classical.choose h else []
theorem rankOf_eq {g : Gm} {p : Int} {to : List Bool} {S : List Int} (hV : Valid g) (h : Rank g p to S) : rankOf g p to = S := by
  unfold rankOf
  rw [dif_pos ⟨S, h⟩]
  exact rank_one hV (Classical.choose_spec ⟨S, h⟩) h

/-! ### Layer by layer -/
/-- Whether a position comes in with the next layer. -/
def trig (g : Gm) (p : Int) (S : List Int) (u : Nat) : Prop := (g.own.getD u 0 = p ∧ ∃ t, t ∈ sc g.nxt u ∧ 0 ≤ S.getD t 0) ∨ (g.own.getD u 0 ≠ p ∧ ∀ t, t ∈ sc g.nxt u → 0 ≤ S.getD t 0)
open Classical in
noncomputable def newS (g : Gm) (p : Int) (S : List Int) (k : Int) (u : Nat) : Int := if S.getD u 0 < 0 ∧ trig g p S u then k else S.getD u 0
def cntN (S : List Int) (n : Nat) : Nat := ((List.range n).filter fun u => S.getD u 0 < 0).length
/-- The layers up to k. -/
structure RK (g : Gm) (p : Int) (to : List Bool) (S : List Int) (k : Nat) : Prop where
  ls : S.length = g.own.length
  lo : ∀ u, u < g.own.length → -1 ≤ S.getD u 0
  up : ∀ u, u < g.own.length → S.getD u 0 ≤ k
  kc : k + cntN S g.own.length ≤ g.own.length
  s0 : ∀ u, u < g.own.length → (S.getD u 0 = 0 ↔ to.getD u false = true)
  c0p : ∀ u, u < g.own.length → S.getD u 0 < 0 → g.own.getD u 0 = p → ∀ t, t ∈ sc g.nxt u → 0 ≤ S.getD t 0 → (k : Int) ≤ S.getD t 0
  c0o : ∀ u, u < g.own.length → S.getD u 0 < 0 → g.own.getD u 0 ≠ p → ∃ t, t ∈ sc g.nxt u ∧ (S.getD t 0 < 0 ∨ (k : Int) ≤ S.getD t 0)
  c3p : ∀ u, u < g.own.length → 0 < S.getD u 0 → g.own.getD u 0 = p → (∃ t, t ∈ sc g.nxt u ∧ S.getD t 0 = S.getD u 0 - 1) ∧ ∀ t, t ∈ sc g.nxt u → 0 ≤ S.getD t 0 → S.getD u 0 - 1 ≤ S.getD t 0
  c3o : ∀ u, u < g.own.length → 0 < S.getD u 0 → g.own.getD u 0 ≠ p → (∃ t, t ∈ sc g.nxt u ∧ S.getD t 0 = S.getD u 0 - 1) ∧ ∀ t, t ∈ sc g.nxt u → 0 ≤ S.getD t 0 ∧ S.getD t 0 ≤ S.getD u 0 - 1
theorem filter_lt {P P' : Nat → Bool} (himp : ∀ x, P' x = true → P x = true) : ∀ {l : List Nat} {u : Nat}, u ∈ l → P u = true → P' u = false → (l.filter P').length + 1 ≤ (l.filter P).length
  | [], u, h, _, _ => absurd h List.not_mem_nil
  | a :: t, u, h, h1, h2 => by
    have hle : (t.filter P').length ≤ (t.filter P).length := by
      clear h h1 h2
      induction t with
      | nil => exact Nat.le_refl _
      | cons b t ih =>
        rw [List.filter_cons, List.filter_cons]
        cases hb : P' b with
        | true => rw [himp b hb]; simp only [if_true, List.length_cons]; omega
        | false =>
          simp only [Bool.false_eq_true, if_false]
          split
          · simp only [List.length_cons]; omega
          · omega
    rw [List.filter_cons, List.filter_cons]
    rcases List.mem_cons.1 h with rfl | h
    · rw [h1, h2]; simp only [Bool.false_eq_true, if_false, if_true, List.length_cons]; omega
    · have ih := filter_lt himp h h1 h2
      cases hb : P' a with
      | true => rw [himp a hb]; simp only [if_true, List.length_cons]; omega
      | false =>
        simp only [Bool.false_eq_true, if_false]
        split
        · simp only [List.length_cons]; omega
        · omega
theorem RK_zero {g : Gm} {p : Int} {to : List Bool} (hV : Valid g) : RK g p to ((List.range g.own.length).map (fun v => if to.getD v false = true then (0 : Int) else -1)) 0 := by
  have hS : ∀ u, u < g.own.length → ((List.range g.own.length).map (fun v => if to.getD v false = true then (0 : Int) else -1)).getD u 0 = if to.getD u false = true then 0 else -1 := fun u hu => by
    rw [List.getD_eq_getElem?_getD, List.getElem?_map, List.getElem?_range hu]; rfl
  refine ⟨by simp, fun u hu => ?_, fun u hu => ?_, ?_, fun u hu => ?_, fun u hu hn ho t ht h0 => by omega, fun u hu hn ho => ?_, fun u hu hp => ?_, fun u hu hp => ?_⟩
  · rw [hS u hu]; split <;> omega
  · rw [hS u hu]; split <;> omega
  · have := List.length_filter_le (fun u => decide (((List.range g.own.length).map (fun v => if to.getD v false = true then (0 : Int) else -1)).getD u 0 < 0)) (List.range g.own.length)
    rw [List.length_range] at this
    unfold cntN; omega
  · rw [hS u hu]
    by_cases h : to.getD u false = true
    · rw [if_pos h]; exact ⟨fun _ => h, fun _ => rfl⟩
    · rw [if_neg h]; exact ⟨fun h1 => by omega, fun h1 => absurd h1 h⟩
  · obtain ⟨⟨_, _, _, _, h1, _⟩, _⟩ := hV.2.2.2 u hu
    have h2 : 0 < (sc g.nxt u).length := by unfold sc; rw [List.length_map]; exact h1
    obtain ⟨t, ht⟩ := List.exists_mem_of_length_pos h2
    exact ⟨t, ht, by omega⟩
  · rw [hS u hu] at hp; split at hp <;> omega
  · rw [hS u hu] at hp; split at hp <;> omega
theorem RK_next {g : Gm} {p : Int} {to : List Bool} {S : List Int} {k : Nat} (hV : Valid g) (h : RK g p to S k) (hm : ∃ u, u < g.own.length ∧ S.getD u 0 < 0 ∧ trig g p S u) : RK g p to ((List.range g.own.length).map (newS g p S ((k : Int) + 1))) (k + 1) := by
  have hN : ∀ u, u < g.own.length → ((List.range g.own.length).map (newS g p S ((k : Int) + 1))).getD u 0 = newS g p S ((k : Int) + 1) u := fun u hu => by
    rw [List.getD_eq_getElem?_getD, List.getElem?_map, List.getElem?_range hu]; rfl
  have hhit : ∀ u, S.getD u 0 < 0 ∧ trig g p S u → newS g p S ((k : Int) + 1) u = (k : Int) + 1 := fun u h => by unfold newS; rw [if_pos h]
  have hskip : ∀ u, ¬ (S.getD u 0 < 0 ∧ trig g p S u) → newS g p S ((k : Int) + 1) u = S.getD u 0 := fun u h => by unfold newS; rw [if_neg h]
  have hold : ∀ u, 0 ≤ S.getD u 0 → newS g p S ((k : Int) + 1) u = S.getD u 0 := fun u h => hskip u (fun h1 => by omega)
  generalize hSS : (List.range g.own.length).map (newS g p S ((k : Int) + 1)) = S' at *
  have hlen : S'.length = g.own.length := by rw [← hSS]; simp
  have hcase : ∀ u, u < g.own.length → (S'.getD u 0 = (k : Int) + 1 ∧ S.getD u 0 < 0 ∧ trig g p S u) ∨ (S'.getD u 0 = S.getD u 0 ∧ ¬ (S.getD u 0 < 0 ∧ trig g p S u)) := fun u hu => by
    by_cases hc : S.getD u 0 < 0 ∧ trig g p S u
    · exact .inl ⟨by rw [hN u hu, hhit u hc], hc.1, hc.2⟩
    · exact .inr ⟨by rw [hN u hu, hskip u hc], hc⟩
  have hmono : ∀ u, u < g.own.length → 0 ≤ S.getD u 0 → S'.getD u 0 = S.getD u 0 := fun u hu h0 => by rw [hN u hu, hold u h0]
  refine ⟨hlen, fun u hu => ?_, fun u hu => ?_, ?_, fun u hu => ?_, fun u hu hn ho t ht h0 => ?_, fun u hu hn ho => ?_, fun u hu hp ho => ?_, fun u hu hp ho => ?_⟩
  · have := h.lo u hu
    rcases hcase u hu with ⟨e, _⟩ | ⟨e, _⟩ <;> omega
  · have := h.up u hu
    rcases hcase u hu with ⟨e, _⟩ | ⟨e, _⟩ <;> omega
  · have hkc := h.kc
    obtain ⟨u, hu, h1, h2⟩ := hm
    have := filter_lt (P := fun u => decide (S.getD u 0 < 0)) (P' := fun u => decide (S'.getD u 0 < 0) && decide (u < g.own.length)) (l := List.range g.own.length) (u := u) (fun x hx => by
      simp only [Bool.and_eq_true, decide_eq_true_eq] at hx ⊢
      rcases hcase x hx.2 with ⟨e, _⟩ | ⟨e, _⟩ <;> omega) (List.mem_range.2 hu) (decide_eq_true h1) (by
      rw [hN u hu, hhit u ⟨h1, h2⟩]
      rw [decide_eq_false (by omega)]; rfl)
    have e : (List.range g.own.length).filter (fun u => decide (S'.getD u 0 < 0) && decide (u < g.own.length)) = (List.range g.own.length).filter (fun u => decide (S'.getD u 0 < 0)) := List.filter_congr fun x hx => by
      rw [decide_eq_true (List.mem_range.1 hx), Bool.and_true]
    rw [e] at this
    unfold cntN at hkc ⊢
    omega
  · rw [← h.s0 u hu]
    rcases hcase u hu with ⟨e, h1, _⟩ | ⟨e, _⟩ <;> omega
  · -- closed
    rcases hcase u hu with ⟨e, _⟩ | ⟨e, hc⟩
    · omega
    · have hun : S.getD u 0 < 0 := by omega
      rcases hcase t (sc_lt hV hu ht) with ⟨e2, _⟩ | ⟨e2, _⟩
      · omega
      · exact absurd ⟨hun, .inl ⟨ho, t, ht, by omega⟩⟩ hc
  · rcases hcase u hu with ⟨e, _⟩ | ⟨e, hc⟩
    · omega
    · have hun : S.getD u 0 < 0 := by omega
      refine Classical.byContradiction fun hno => hc ⟨hun, .inr ⟨ho, fun t ht => ?_⟩⟩
      refine Classical.byContradiction fun h0 => hno ⟨t, ht, ?_⟩
      rcases hcase t (sc_lt hV hu ht) with ⟨e2, _⟩ | ⟨e2, _⟩
      · exact .inr (by omega)
      · exact .inl (by omega)
  · rcases hcase u hu with ⟨e, h1, h2⟩ | ⟨e, hc⟩
    · -- comes in now
      have hge := h.c0p u hu h1 ho
      rcases h2 with ⟨_, t, ht, h0⟩ | ⟨h3, _⟩
      · have h4 := hge t ht h0
        have h5 := h.up t (sc_lt hV hu ht)
        refine ⟨⟨t, ht, by rw [hmono t (sc_lt hV hu ht) h0]; omega⟩, fun t' ht' h0' => ?_⟩
        rcases hcase t' (sc_lt hV hu ht') with ⟨e2, _⟩ | ⟨e2, _⟩
        · omega
        · have := hge t' ht' (by omega); omega
      · exact absurd ho h3
    · rw [e] at hp ⊢
      obtain ⟨⟨t, ht, h1⟩, h2⟩ := h.c3p u hu hp ho
      refine ⟨⟨t, ht, by rw [hmono t (sc_lt hV hu ht) (by omega)]; exact h1⟩, fun t' ht' h0' => ?_⟩
      rcases hcase t' (sc_lt hV hu ht') with ⟨e2, _⟩ | ⟨e2, _⟩
      · have := h.up u hu; omega
      · have := h2 t' ht' (by omega); omega
  · rcases hcase u hu with ⟨e, h1, h2⟩ | ⟨e, hc⟩
    · rcases h2 with ⟨h3, _⟩ | ⟨_, h2⟩
      · exact absurd h3 ho
      · obtain ⟨t, ht, h3⟩ := h.c0o u hu h1 ho
        have h4 := h2 t ht
        have h5 := h.up t (sc_lt hV hu ht)
        refine ⟨⟨t, ht, by rw [hmono t (sc_lt hV hu ht) h4]; omega⟩, fun t' ht' => ?_⟩
        have h6 := h2 t' ht'
        have h7 := h.up t' (sc_lt hV hu ht')
        rw [hmono t' (sc_lt hV hu ht') h6]; omega
    · rw [e] at hp ⊢
      obtain ⟨⟨t, ht, h1⟩, h2⟩ := h.c3o u hu hp ho
      refine ⟨⟨t, ht, by rw [hmono t (sc_lt hV hu ht) (by omega)]; exact h1⟩, fun t' ht' => ?_⟩
      have := h2 t' ht'
      rw [hmono t' (sc_lt hV hu ht') this.1]; exact this
theorem RK_rank {g : Gm} {p : Int} {to : List Bool} {S : List Int} {k : Nat} (hV : Valid g) (h : RK g p to S k) (hm : ¬ ∃ u, u < g.own.length ∧ S.getD u 0 < 0 ∧ trig g p S u) : Rank g p to S := by
  refine ⟨h.ls, h.lo, fun u hu => by have := h.up u hu; have := h.kc; omega, h.s0, fun u hu hn ho t ht => ?_, fun u hu hn ho => ?_, h.c3p, h.c3o⟩
  · refine Classical.byContradiction fun h0 => hm ⟨u, hu, hn, .inl ⟨ho, t, ht, by omega⟩⟩
  · refine Classical.byContradiction fun hno => hm ⟨u, hu, hn, .inr ⟨ho, fun t ht => ?_⟩⟩
    refine Classical.byContradiction fun h0 => hno ⟨t, ht, by omega⟩

theorem rank_of {g : Gm} {p : Int} {to : List Bool} (hV : Valid g) (ht : to.length = g.own.length) : Rank g p to (rankOf g p to) := by
  have hex : ∀ (m : Nat) (S : List Int) (k : Nat), g.own.length - k = m → RK g p to S k → ∃ S, Rank g p to S := by
    intro m
    induction m using Nat.strongRecOn with
    | ind m ih =>
      intro S k hm h
      by_cases hmore : ∃ u, u < g.own.length ∧ S.getD u 0 < 0 ∧ trig g p S u
      · have h2 := RK_next hV h hmore
        have := h2.kc
        exact ih (g.own.length - (k + 1)) (by omega) _ (k + 1) rfl h2
      · exact ⟨S, RK_rank hV h hmore⟩
  have := hex _ _ _ rfl (RK_zero hV)
  unfold rankOf
  rw [dif_pos this]
  exact Classical.choose_spec this

/-- A row's successors, as numbers. -/
def rws (x : List (List Int)) (v : Nat) : List Nat := (x.getD v []).map Int.toNat
theorem rws_len {x : List (List Int)} {v : Nat} : (rws x v).length = (x.getD v []).length := List.length_map ..
theorem rws_getD {x : List (List Int)} {v j : Nat} : (rws x v).getD j 0 = ((x.getD v []).getD j 0).toNat := by
  simp only [rws, List.getD_eq_getElem?_getD, List.getElem?_map]
  cases (x[v]?.getD [])[j]? <;> rfl

end Go.Proofs.Ytgminhedbeblpaa.Cal
