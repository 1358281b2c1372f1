/- The least measures, plain Lean. -/
import Derived.Test.YtgminhedbeblpaaPl10
set_option linter.unusedVariables false
set_option linter.unusedSimpArgs false
namespace Go.Proofs.Ytgminhedbeblpaa.Cal
open Go Pl

section
variable (g : Gm) (odd many : List Int)
/-- What the r-th move of v asks for. -/
def askV (l : List Int) (v r : Nat) : Int := progV odd many (l.getD ((g.nxt.getD v []).getD r 0).toNat 0) (g.pri.getD v 0)
/-- The best of the first r moves. -/
def bB (l : List Int) (v : Nat) : Nat → Int
  | 0 => 0
  | r + 1 => if r = 0 ∨ (g.own.getD v 0 = 0 ∧ askV g odd many l v r < bB l v r) ∨ (g.own.getD v 0 ≠ 0 ∧ bB l v r < askV g odd many l v r) then askV g odd many l v r else bB l v r
def bestV (l : List Int) (v : Nat) : Int := bB g odd many l v (g.nxt.getD v []).length
structure LR (l : List Int) : Prop where
  len : l.length = g.own.length
  rng : ∀ v, v < g.own.length → 0 ≤ l.getD v 0 ∧ l.getD v 0 ≤ rpr many
structure Pre (l : List Int) : Prop extends LR g many l where
  ok : ∀ v, v < g.own.length → bestV g odd many l v ≤ l.getD v 0
structure Least (l : List Int) : Prop extends Pre g odd many l where
  low : ∀ l', Pre g odd many l' → ∀ v, v < g.own.length → l.getD v 0 ≤ l'.getD v 0
open Classical in
noncomputable def leastL : List Int := if h : ∃ l, Least g odd many l then Classical.choose h else []
end

section
variable {g : Gm} {odd many : List Int}
theorem least_uniq {l l' : List Int} (h : Least g odd many l) (h' : Least g odd many l') : l = l' := by
  refine List.ext_getElem (by rw [h.len, h'.len]) fun j h1 h2 => ?_
  have hj : j < g.own.length := by rw [← h.len]; exact h1
  have a1 := h.low l' h'.toPre j hj
  have a2 := h'.low l h.toPre j hj
  rw [List.getD_eq_getElem?_getD, List.getD_eq_getElem?_getD, List.getElem?_eq_getElem h1, List.getElem?_eq_getElem h2] at a1 a2
  simp only [Option.getD_some] at a1 a2
  omega
theorem leastL_eq {l : List Int} (h : Least g odd many l) : leastL g odd many = l := by
  have hex : ∃ l, Least g odd many l := ⟨l, h⟩
  unfold leastL
  rw [dif_pos hex]
  exact least_uniq (Classical.choose_spec hex) h

theorem bB_min {l : List Int} {v : Nat} (h : g.own.getD v 0 = 0) : ∀ {r}, 0 < r → (∀ i, i < r → bB g odd many l v r ≤ askV g odd many l v i) ∧ ∃ i, i < r ∧ bB g odd many l v r = askV g odd many l v i
  | 0, h => absurd h (Nat.lt_irrefl _)
  | r + 1, _ => by
    unfold bB
    by_cases e : r = 0
    · subst e
      rw [if_pos (.inl rfl)]
      exact ⟨fun i hi => by obtain rfl : i = 0 := by omega
                            exact Int.le_refl _, 0, Nat.lt_succ_self _, rfl⟩
    · obtain ⟨h1, i, h2, h3⟩ := bB_min (l := l) h (r := r) (by omega)
      by_cases e2 : askV g odd many l v r < bB g odd many l v r
      · rw [if_pos (.inr (.inl ⟨h, e2⟩))]
        exact ⟨fun i hi => by
          by_cases e3 : i = r
          · rw [e3]; exact Int.le_refl _
          · have := h1 i (by omega); omega, r, Nat.lt_succ_self _, rfl⟩
      · rw [if_neg (fun h' => h'.elim e fun h' => h'.elim (fun x => e2 x.2) fun x => x.1 h)]
        exact ⟨fun i hi => by
          by_cases e3 : i = r
          · rw [e3]; omega
          · exact h1 i (by omega), i, by omega, h3⟩
theorem bB_max {l : List Int} {v : Nat} (h : g.own.getD v 0 ≠ 0) : ∀ {r}, 0 < r → (∀ i, i < r → askV g odd many l v i ≤ bB g odd many l v r) ∧ ∃ i, i < r ∧ bB g odd many l v r = askV g odd many l v i
  | 0, h => absurd h (Nat.lt_irrefl _)
  | r + 1, _ => by
    unfold bB
    by_cases e : r = 0
    · subst e
      rw [if_pos (.inl rfl)]
      exact ⟨fun i hi => by obtain rfl : i = 0 := by omega
                            exact Int.le_refl _, 0, Nat.lt_succ_self _, rfl⟩
    · obtain ⟨h1, i, h2, h3⟩ := bB_max (l := l) h (r := r) (by omega)
      by_cases e2 : bB g odd many l v r < askV g odd many l v r
      · rw [if_pos (.inr (.inr ⟨h, e2⟩))]
        exact ⟨fun i hi => by
          by_cases e3 : i = r
          · rw [e3]; exact Int.le_refl _
          · have := h1 i (by omega); omega, r, Nat.lt_succ_self _, rfl⟩
      · rw [if_neg (fun h' => h'.elim e fun h' => h'.elim (fun x => h x.1) fun x => e2 x.2)]
        exact ⟨fun i hi => by
          by_cases e3 : i = r
          · rw [e3]; omega
          · exact h1 i (by omega), i, by omega, h3⟩
theorem row_at {x : List (List Int)} {v i : Nat} (hi : i < (x.getD v []).length) : ((x.getD v []).getD i 0).toNat ∈ rws x v := by
  rw [List.getD_eq_getElem?_getD, List.getElem?_eq_getElem hi]
  exact List.mem_map.2 ⟨_, List.getElem_mem hi, rfl⟩
theorem best_ask {l : List Int} {v : Nat} (hr : 0 < (g.nxt.getD v []).length) : ∃ i, i < (g.nxt.getD v []).length ∧ bestV g odd many l v = askV g odd many l v i := by
  by_cases h : g.own.getD v 0 = 0
  · exact (bB_min h hr).2
  · exact (bB_max h hr).2
theorem best_bd {l : List Int} {v : Nat} (hp : posL many) (hl : LR g many l) (hr : 0 < (g.nxt.getD v []).length) (hw : ∀ t, t ∈ rws g.nxt v → t < g.own.length) : 0 ≤ bestV g odd many l v ∧ bestV g odd many l v ≤ rpr many := by
  obtain ⟨i, h1, h2⟩ := best_ask (odd := odd) (many := many) (l := l) hr
  have h3 := hl.rng _ (hw _ (row_at h1))
  rw [h2]
  exact progV_bd hp h3.1 h3.2
theorem best_mono {l l' : List Int} {v : Nat} (hp : posL many) (hl : LR g many l) (hl' : LR g many l') (hr : 0 < (g.nxt.getD v []).length) (hw : ∀ t, t ∈ rws g.nxt v → t < g.own.length) (h : ∀ t, t ∈ rws g.nxt v → l.getD t 0 ≤ l'.getD t 0) : bestV g odd many l v ≤ bestV g odd many l' v := by
  have ha : ∀ i, i < (g.nxt.getD v []).length → askV g odd many l v i ≤ askV g odd many l' v i := fun i hi => by
    have hm := row_at (x := g.nxt) hi
    exact progV_mono hp (hl.rng _ (hw _ hm)).1 (h _ hm) (hl'.rng _ (hw _ hm)).2
  by_cases h0 : g.own.getD v 0 = 0
  · obtain ⟨a1, _⟩ := bB_min (odd := odd) (many := many) (l := l) h0 hr
    obtain ⟨_, i, b1, b2⟩ := bB_min (odd := odd) (many := many) (l := l') h0 hr
    unfold bestV
    rw [b2]
    exact Int.le_trans (a1 i b1) (ha i b1)
  · obtain ⟨_, i, b1, b2⟩ := bB_max (odd := odd) (many := many) (l := l) h0 hr
    obtain ⟨a1, _⟩ := bB_max (odd := odd) (many := many) (l := l') h0 hr
    unfold bestV
    rw [b2]
    exact Int.le_trans (ha i b1) (a1 i b1)
theorem bB_same {l l' : List Int} {v : Nat} (h : ∀ t, t ∈ rws g.nxt v → l.getD t 0 = l'.getD t 0) : ∀ {r}, r ≤ (g.nxt.getD v []).length → bB g odd many l v r = bB g odd many l' v r
  | 0, _ => rfl
  | r + 1, hr => by
    have e : askV g odd many l v r = askV g odd many l' v r := by
      unfold askV; rw [h _ (row_at (by omega))]
    unfold bB
    rw [e, bB_same h (r := r) (by omega)]

/-! Sums -/
theorem sum_set : ∀ {l : List Int} {v : Nat} {x : Int}, v < l.length → (l.set v x).sum = l.sum - l.getD v 0 + x
  | [], _, _, h => absurd h (Nat.not_lt_zero _)
  | a :: l, 0, x, _ => by
    show x + l.sum = a + l.sum - a + x
    omega
  | a :: l, v + 1, x, h => by
    have := sum_set (l := l) (v := v) (x := x) (by simpa using h)
    show a + (l.set v x).sum = a + l.sum - l.getD v 0 + x
    rw [this]; omega
theorem sum_le : ∀ {l : List Int} {P : Int}, (∀ x, x ∈ l → x ≤ P) → l.sum ≤ l.length * P
  | [], P, _ => by simp
  | a :: l, P, h => by
    have h1 := h a List.mem_cons_self
    have h2 := sum_le (l := l) (P := P) fun x hx => h x (List.mem_cons_of_mem _ hx)
    show a + l.sum ≤ ((l.length + 1 : Nat) : Int) * P
    rw [Int.natCast_add, Int.add_mul]; simp; omega
theorem LR_sum {l : List Int} (h : LR g many l) : l.sum ≤ g.own.length * rpr many := by
  rw [← h.len]
  refine sum_le fun x hx => ?_
  obtain ⟨j, hj, rfl⟩ := List.getElem_of_mem hx
  have := (h.rng j (by rw [← h.len]; exact hj)).2
  rw [List.getD_eq_getElem?_getD, List.getElem?_eq_getElem hj] at this
  exact this
theorem LR_set {l : List Int} (h : LR g many l) {v : Nat} {x : Int} (hv : v < g.own.length) (h0 : 0 ≤ x) (h1 : x ≤ rpr many) : LR g many (l.set v x) := by
  refine ⟨by rw [List.length_set]; exact h.len, fun u hu => ?_⟩
  rw [getD_set (by rw [h.len]; exact hv)]
  split
  · exact ⟨h0, h1⟩
  · exact h.rng u hu

/-- What holds while positions wait: w those; ex those whose condition may be broken though they do not wait. -/
structure QJ (g : Gm) (odd many : List Int) (l : List Int) (th : List Bool) (w : List Nat) (left : Int) (ex : Nat → Prop) : Prop where
  lr : LR g many l
  blw : ∀ l', Pre g odd many l' → ∀ v, v < g.own.length → l.getD v 0 ≤ l'.getD v 0
  tl : th.length = g.own.length
  tw : ∀ v, v < g.own.length → (th.getD v false = true ↔ v ∈ w)
  wn : w.Nodup
  wb : ∀ v, v ∈ w → v < g.own.length
  st : ∀ v, v < g.own.length → v ∉ w → ¬ ex v → bestV g odd many l v ≤ l.getD v 0
  lf : 1048576 - left ≤ l.sum
  l2 : left ≤ 1048576

structure GOK (g : Gm) (many : List Int) : Prop where
  hp : posL many
  hr : ∀ v, v < g.own.length → 0 < (g.nxt.getD v []).length
  hw : ∀ v, v < g.own.length → ∀ t, t ∈ rws g.nxt v → t < g.own.length

variable {l : List Int} {th : List Bool} {w : List Nat} {left : Int} {v : Nat}
theorem QJ_pop (H : QJ g odd many l th (v :: w) left fun _ => False) : QJ g odd many l (th.set v false) w left (fun u => u = v) ∧ v < g.own.length := by
  have hv := H.wb v List.mem_cons_self
  have hnd := List.nodup_cons.1 H.wn
  refine ⟨{ H with tl := by rw [List.length_set]; exact H.tl, tw := fun u hu => ?_, wn := hnd.2, wb := fun u hu => H.wb u (List.mem_cons_of_mem _ hu), st := fun u hu h1 h2 => H.st u hu (fun h => ?_) id }, hv⟩
  · rw [getD_set (by rw [H.tl]; exact hv)]
    by_cases e : u = v
    · rw [if_pos e, e]; exact ⟨fun h => absurd h (by decide), fun h => absurd h hnd.1⟩
    · rw [if_neg e, H.tw u hu, List.mem_cons]; exact ⟨fun h => h.resolve_left e, .inr⟩
  · rcases List.mem_cons.1 h with h | h
    · exact h2 h
    · exact h1 h
theorem QJ_skip (H : QJ g odd many l th w left fun u => u = v) (h : ¬ l.getD v 0 < bestV g odd many l v) : QJ g odd many l th w left fun _ => False :=
  { H with st := fun u hu h1 _ => (Classical.em (u = v)).elim (fun e => by rw [e]; omega) fun e => H.st u hu h1 e }
theorem QJ_raise (hG : GOK g many) (H : QJ g odd many l th w left fun u => u = v) (hv : v < g.own.length) (h : l.getD v 0 < bestV g odd many l v) : QJ g odd many (l.set v (bestV g odd many l v)) th w (left - 1) fun u => v ∈ rws g.nxt u := by
  have hb := best_bd (odd := odd) hG.hp H.lr (hG.hr v hv) (hG.hw v hv)
  have hvl : v < l.length := by rw [H.lr.len]; exact hv
  refine { H with lr := LR_set H.lr hv hb.1 hb.2, blw := fun l' hl' u hu => ?_, st := fun u hu h1 h2 => ?_, lf := ?_, l2 := by have := H.l2; omega }
  · rw [getD_set hvl]
    split
    · rename_i e
      subst e
      exact Int.le_trans (best_mono hG.hp H.lr hl'.toLR (hG.hr u hu) (hG.hw u hu) fun t ht => H.blw l' hl' t (hG.hw u hu t ht)) (hl'.ok u hu)
    · exact H.blw l' hl' u hu
  · have e : bestV g odd many (l.set v (bestV g odd many l v)) u = bestV g odd many l u := bB_same (fun t ht => by
      rw [getD_set hvl, if_neg]
      intro e; subst e; exact h2 ht) (Nat.le_refl _)
    rw [e, getD_set hvl]
    by_cases e2 : u = v
    · rw [if_pos e2, e2]; exact Int.le_refl _
    · rw [if_neg e2]; exact H.st u hu h1 e2
  · rw [sum_set hvl]
    have := H.lf
    omega
theorem QJ_push {dn : List Nat} {u : Nat} (H : QJ g odd many l th w left fun t => v ∈ rws g.nxt t ∧ t ∉ dn) (hu : u < g.own.length) (ho : th.getD u false = false) : QJ g odd many l (th.set u true) (w ++ [u]) left fun t => v ∈ rws g.nxt t ∧ t ∉ dn ++ [u] := by
  have hul : u < th.length := by rw [H.tl]; exact hu
  have hnw : u ∉ w := fun h => by rw [(H.tw u hu).2 h] at ho; cases ho
  refine { H with tl := by rw [List.length_set]; exact H.tl, tw := fun t ht => ?_, wn := ?_, wb := fun t ht => ?_, st := fun t ht h1 h2 => H.st t ht (fun h => h1 (List.mem_append_left _ h)) (fun h => h2 ⟨h.1, fun h3 => ?_⟩) }
  · rw [getD_set hul, List.mem_append, List.mem_singleton]
    by_cases e : t = u
    · rw [if_pos e]; exact ⟨fun _ => .inr e, fun _ => rfl⟩
    · rw [if_neg e, H.tw t ht]; exact ⟨.inl, fun h => h.resolve_right e⟩
  · rw [List.nodup_append]
    exact ⟨H.wn, List.pairwise_singleton _ _, fun a ha b hb e => by rw [List.mem_singleton.1 hb] at e; exact hnw (e ▸ ha)⟩
  · rcases List.mem_append.1 ht with h | h
    · exact H.wb t h
    · rw [List.mem_singleton.1 h]; exact hu
  · rcases List.mem_append.1 h3 with h3 | h3
    · exact h.2 h3
    · exact h1 (List.mem_append_right _ h3)
theorem QJ_past {dn : List Nat} {u : Nat} (H : QJ g odd many l th w left fun t => v ∈ rws g.nxt t ∧ t ∉ dn) (hu : u < g.own.length) (ho : th.getD u false = true) : QJ g odd many l th w left fun t => v ∈ rws g.nxt t ∧ t ∉ dn ++ [u] :=
  { H with st := fun t ht h1 h2 => H.st t ht h1 fun h => h2 ⟨h.1, fun h3 => (List.mem_append.1 h3).elim h.2 fun h3 => h1 (by rw [List.mem_singleton.1 h3]; exact (H.tw u hu).1 ho)⟩ }
theorem QJ_weak {ex ex' : Nat → Prop} (H : QJ g odd many l th w left ex) (h : ∀ u, u < g.own.length → ex u → ex' u) : QJ g odd many l th w left ex' := { H with st := fun u hu h1 h2 => H.st u hu h1 fun h3 => h2 (h u hu h3) }
theorem QJ_done (H : QJ g odd many l th [] left fun _ => False) : Least g odd many l :=
  { H.lr with ok := fun v hv => H.st v hv List.not_mem_nil id, low := H.blw }
theorem QJ_left {ex : Nat → Prop} (H : QJ g odd many l th w left ex) (hn : g.own.length ≤ 12) (hP : rpr many ≤ 4096) (h0 : 0 < rpr many) : 999424 ≤ left := by
  have h1 := H.lf
  have h2 := LR_sum H.lr
  have h3 : (g.own.length : Int) * rpr many ≤ 12 * 4096 := Int.mul_le_mul (by omega) hP (Int.le_of_lt h0) (by omega)
  omega
/-- How much is left to do. -/
def qm (g : Gm) (many l : List Int) (w : List Nat) : Nat := ((g.own.length : Int) * rpr many - l.sum).toNat * (g.own.length + 1) + w.length
end

end Go.Proofs.Ytgminhedbeblpaa.Cal
