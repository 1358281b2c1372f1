/- Own texts of the proof, merged, in order. -/
import Derived.Test.YtgminhedbeblpaaS25
set_option linter.unusedVariables false
set_option linter.unusedSimpArgs false
namespace Go.Proofs.Ytgminhedbeblpaa.Cal
section
theorem nv_le : ∀ {ms a b : List Int}, wfL ms a → wfL ms b → (∀ i, i < ms.length → a.getD i 0 ≤ b.getD i 0) → nvl ms a ≤ nvl ms b
  | [], [], [], _, _, _ => Int.le_refl _
  | [], _ :: _, _, h, _, _ => h.elim
  | [], _, _ :: _, _, h, _ => h.elim
  | _ :: _, [], _, h, _, _ => h.elim
  | _ :: _, _, [], _, h, _ => h.elim
  | m :: ms, a :: r, b :: s, h, h', hi => by
    have h1 := nv_le h.2 h'.2 fun i h2 => hi (i + 1) (by simpa using h2)
    have h2 : a ≤ b := hi 0 (by simp)
    have h3 := Int.mul_le_mul_of_nonneg_right h2 (Int.le_of_lt (rpr_pos (wfL_pos h.2)))
    show a * rpr ms + nvl ms r ≤ b * rpr ms + nvl ms s
    omega
theorem pad_getD {l : List Int} {j k i : Nat} : (l.take j ++ List.replicate k 0).getD i 0 = if i < j ∧ i < l.length then l.getD i 0 else 0 := by
  simp only [List.getD_eq_getElem?_getD, List.getElem?_append, List.length_take, List.getElem?_take, List.getElem?_replicate]
  by_cases h : i < j ∧ i < l.length
  · rw [if_pos h, if_pos (by omega), if_pos h.1]
  · rw [if_neg h]
    split
    · omega
    · split <;> rfl
/-- Digits that are at least as great, and greater where the priority is odd. -/
theorem prog_le {odd many D D' : List Int} {q : Int} (hp : posL many) (hlen : odd.length = many.length) (h : wfL many D) (h' : wfL many D') (hle : ∀ i, i < abv odd q → D.getD i 0 ≤ D'.getD i 0)
    (hlt : q % 2 ≠ 0 → 0 < abv odd q ∧ D.getD (abv odd q - 1) 0 + 1 ≤ D'.getD (abv odd q - 1) 0) : progV odd many (nvl many D) q ≤ nvl many D' := by
  have hj : abv odd q ≤ many.length := by have := abv_le (odd := odd) (q := q); omega
  obtain ⟨h1, h2⟩ := pad_nv h hj
  have h3 := (nvl_bd h).2
  have hDl := wfL_len h
  have hD'0 : ∀ i, i < many.length → 0 ≤ D'.getD i 0 := fun i hi => (wfL_get h' hi).1
  unfold progV
  rw [if_neg (by omega), ← h2]
  split
  · refine nv_le h1 h' fun i hi => ?_
    rw [pad_getD]
    split
    · rename_i h4; exact hle i h4.1
    · exact hD'0 i hi
  · rename_i hq
    obtain ⟨h4, h5⟩ := hlt hq
    have hjl : abv odd q - 1 < many.length := by omega
    have hget : (D.take (abv odd q) ++ List.replicate (many.length - abv odd q) 0).getD (abv odd q - 1) 0 = D.getD (abv odd q - 1) 0 := by rw [pad_getD, if_pos (by omega)]
    have h6 := (wfL_get h' hjl).2
    have h7 := (wfL_get h hjl).1
    have h8 := nvl_set (i := abv odd q - 1) (x := D.getD (abv odd q - 1) 0 + 1) h1 hjl
    rw [hget, show abv odd q - 1 + 1 = abv odd q by omega, show D.getD (abv odd q - 1) 0 + 1 - D.getD (abv odd q - 1) 0 = 1 by omega, Int.one_mul] at h8
    rw [← h8]
    have hlen2 : (D.take (abv odd q) ++ List.replicate (many.length - abv odd q) 0).length = many.length := wfL_len h1
    refine nv_le (wfL_set h1 (by omega) (by omega)) h' fun i hi => ?_
    by_cases e : i = abv odd q - 1
    · subst e
      rw [List.getD_eq_getElem?_getD, List.getElem?_set_self (by omega)]
      exact h5
    · rw [List.getD_eq_getElem?_getD, List.getElem?_set_ne (fun h => e h.symm), ← List.getD_eq_getElem?_getD, pad_getD]
      split
      · rename_i h9; exact hle i h9.1
      · exact hD'0 i hi
theorem abv_mono {odd : List Int} {q q' : Int} (h : q' ≤ q) : abv odd q ≤ abv odd q' := by
  induction odd with
  | nil => exact Nat.le_refl _
  | cons o odd ih =>
    unfold abv at ih ⊢
    simp only [List.takeWhile_cons]
    by_cases e : q ≤ o
    · rw [if_pos (decide_eq_true e), if_pos (decide_eq_true (show q' ≤ o by omega))]
      simpa using ih
    · rw [if_neg (by simpa using e)]; exact Nat.zero_le _
theorem drop_dvd {ms : List Int} {j k : Nat} (h : j ≤ k) : ∃ t, rpr (ms.drop j) = t * rpr (ms.drop k) ∧ (posL ms → 0 < t) := by
  obtain ⟨t, h1, h2⟩ := rpr_dvd (ms := ms.drop j) (j := k - j)
  rw [List.drop_drop, show j + (k - j) = k by omega] at h1
  exact ⟨t, h1, fun hp => h2 (drop_pos hp)⟩
/-- What is at least prog is, in the first digits, at least what it is of. -/
theorem prog_step {odd many : List Int} {V V' q q' : Int} (hp : posL many) (h0 : 0 ≤ V) (hV : V ≠ rpr many) (hq : q' ≤ q) (h : progV odd many V q' ≤ V') : V / rpr (many.drop (abv odd q)) ≤ V' / rpr (many.drop (abv odd q)) := by
  obtain ⟨t, ht, htp⟩ := drop_dvd (ms := many) (abv_mono (odd := odd) hq)
  have hR := rpr_pos (drop_pos (j := abv odd q') hp)
  have ht0 := htp hp
  have h1 : V / rpr (many.drop (abv odd q')) * rpr (many.drop (abv odd q')) ≤ V' := by
    unfold progV at h
    rw [if_neg hV] at h
    split at h <;> omega
  rw [ht, Int.mul_comm, ← Int.ediv_ediv_of_nonneg (by omega), ← Int.ediv_ediv_of_nonneg (by omega)]
  refine Int.ediv_le_ediv ht0 ?_
  have h2 : (V / rpr (many.drop (abv odd q')) * rpr (many.drop (abv odd q'))) / rpr (many.drop (abv odd q')) ≤ V' / rpr (many.drop (abv odd q')) := Int.ediv_le_ediv hR h1
  rwa [Int.mul_ediv_cancel _ (by omega)] at h2
theorem prog_up {odd many : List Int} {V V' q : Int} (hp : posL many) (h0 : 0 ≤ V) (hV : V ≠ rpr many) (hq : q % 2 ≠ 0) (h : progV odd many V q ≤ V') : V / rpr (many.drop (abv odd q)) + 1 ≤ V' / rpr (many.drop (abv odd q)) := by
  have hR := rpr_pos (drop_pos (j := abv odd q) hp)
  unfold progV at h
  rw [if_neg hV, if_neg hq] at h
  have h2 : (V / rpr (many.drop (abv odd q)) + 1) * rpr (many.drop (abv odd q)) ≤ V' := by rw [Int.add_mul, Int.one_mul]; exact h
  have h3 := Int.ediv_le_ediv hR h2
  rwa [Int.mul_ediv_cancel _ (by omega)] at h3
/-- Measures below top that are at least prog along the steps: no cycle has an odd greatest priority. -/
theorem meas_cyc {E : Nat → Nat → Prop} {pri l : Nat → Int} {odd many : List Int} {D : Nat → Prop} (hp : posL many) (hD : ∀ a b, E a b → D a ∧ D b) (hl : ∀ a, D a → 0 ≤ l a ∧ l a ≠ rpr many) (hE : ∀ a b, E a b → progV odd many (l b) (pri a) ≤ l a) {w : Nat} (hw : pri w % 2 ≠ 0) : ¬ Cyc E pri w := by
  rintro ⟨t, ht, htw⟩
  have h1 := prog_up hp (hl t (hD _ _ ht.1).2).1 (hl t (hD _ _ ht.1).2).2 hw (hE _ _ ht.1)
  have h2 : ∀ b, Rch (Low E pri w) t b → pri b ≤ pri w ∧ l b / rpr (many.drop (abv odd (pri w))) ≤ l t / rpr (many.drop (abv odd (pri w))) := fun b hb => by
    induction hb with
    | refl => exact ⟨ht.2, Int.le_refl _⟩
    | step _ e ih =>
      have h3 := prog_step (q := pri w) hp (hl _ (hD _ _ e.1).2).1 (hl _ (hD _ _ e.1).2).2 ih.1 (hE _ _ e.1)
      exact ⟨e.2, by omega⟩
  have h3 := (h2 w htw).2
  omega
/-! ### The most visits on a way -/
/-- A way from v through priorities up to q, and the positions of priority q on it. -/
inductive Vis (E : Nat → Nat → Prop) (pri : Nat → Int) (q : Int) : Nat → List Nat → Prop
  | one {v : Nat} : pri v ≤ q → Vis E pri q v (if pri v = q then [v] else [])
  | step {v w : Nat} {l : List Nat} : pri v ≤ q → E v w → Vis E pri q w l → Vis E pri q v (if pri v = q then v :: l else l)
/-- The steps that end at a priority of at most q. -/
def LowQ (E : Nat → Nat → Prop) (pri : Nat → Int) (q : Int) (a b : Nat) : Prop := E a b ∧ pri b ≤ q
theorem Vis.low {E : Nat → Nat → Prop} {pri : Nat → Int} {q : Int} {v : Nat} {l : List Nat} (h : Vis E pri q v l) : pri v ≤ q := by cases h <;> assumption
theorem Vis.mem {E : Nat → Nat → Prop} {pri : Nat → Int} {q : Int} {v : Nat} {l : List Nat} (h : Vis E pri q v l) : ∀ x, x ∈ l → pri x = q ∧ Rch (LowQ E pri q) v x := by
  induction h with
  | one h =>
    intro x hx
    split at hx
    · rename_i e; rw [List.mem_singleton.1 hx]; exact ⟨e, .refl _⟩
    · exact absurd hx List.not_mem_nil
  | @step v w l h e h2 ih =>
    intro x hx
    have hin : x ∈ l → pri x = q ∧ Rch (LowQ E pri q) v x := fun h3 => ⟨(ih x h3).1, Rch.cons ⟨e, h2.low⟩ (ih x h3).2⟩
    split at hx
    · rename_i e2
      rcases List.mem_cons.1 hx with rfl | h3
      · exact ⟨e2, .refl _⟩
      · exact hin h3
    · exact hin hx
theorem Vis.nodup {E : Nat → Nat → Prop} {pri : Nat → Int} {q : Int} {v : Nat} {l : List Nat} (h : Vis E pri q v l) (hE : ∀ a b, E a b → pri a = q → ¬ Cyc E pri a) : l.Nodup := by
  induction h with
  | one h => split <;> simp
  | @step v w l h e h2 ih =>
    split
    · rename_i e2
      refine List.nodup_cons.2 ⟨fun hx => hE v w e e2 ?_, ih⟩
      obtain ⟨_, h3⟩ := h2.mem v hx
      exact ⟨w, ⟨e, by rw [e2]; exact h2.low⟩, Rch.mono (fun a b hab => ⟨hab.1, by rw [e2]; exact hab.2⟩) h3⟩
    · exact ih
theorem nodup_sub : ∀ {l m : List Nat}, l.Nodup → (∀ x, x ∈ l → x ∈ m) → l.length ≤ m.length
  | [], _, _, _ => Nat.zero_le _
  | x :: l, m, hn, hs => by
    obtain ⟨h1, h2⟩ := List.nodup_cons.1 hn
    have h3 : x ∈ m := hs x List.mem_cons_self
    have h4 := nodup_sub (l := l) (m := m.erase x) h2 fun y hy => (List.mem_erase_of_ne (fun e : y = x => h1 (e ▸ hy))).2 (hs y (List.mem_cons_of_mem _ hy))
    rw [List.length_erase_of_mem h3] at h4
    have := List.length_pos_of_mem h3
    rw [List.length_cons]; omega
theorem count_pos_at {p : List Int} {q : Int} : ((List.range p.length).filter fun v => decide (p.getD v 0 = q)).length = p.count q := by
  have h : p = (List.range p.length).map fun v => p.getD v 0 := by
    refine List.ext_getElem (by simp) fun j h1 h2 => ?_
    simp [List.getD_eq_getElem?_getD, h1]
  conv => rhs; rw [h]
  rw [List.count_eq_countP, List.countP_map, List.countP_eq_length_filter]
  congr 1
/-- The greatest length up to B of such lists. -/
noncomputable def mvN (Q : Nat → Prop) : Nat → Nat
  | 0 => 0
  | B + 1 => open Classical in if Q (B + 1) then B + 1 else mvN Q B
theorem mvN_le {Q : Nat → Prop} : ∀ {B : Nat}, mvN Q B ≤ B
  | 0 => Nat.le_refl _
  | B + 1 => by
    unfold mvN
    split
    · exact Nat.le_refl _
    · exact Nat.le_succ_of_le mvN_le
theorem mvN_ge {Q : Nat → Prop} {k : Nat} (hk : Q k) : ∀ {B : Nat}, k ≤ B → k ≤ mvN Q B
  | 0, h => by rw [Nat.le_zero.1 h]; exact Nat.zero_le _
  | B + 1, h => by
    unfold mvN
    split
    · exact h
    · rename_i h2
      by_cases e : k = B + 1
      · exact absurd (e ▸ hk) h2
      · exact mvN_ge hk (by omega)
theorem mvN_is {Q : Nat → Prop} : ∀ {B : Nat}, mvN Q B = 0 ∨ Q (mvN Q B)
  | 0 => .inl rfl
  | B + 1 => by
    unfold mvN
    split
    · rename_i h; exact .inr h
    · exact mvN_is
section
variable {E : Nat → Nat → Prop} {pri : Nat → Int} {p : List Int} {o : Int}
/-- How often the priority o can be met from v on, through none greater. -/
noncomputable def mvV (E : Nat → Nat → Prop) (pri : Nat → Int) (p : List Int) (o : Int) (v : Nat) : Nat := mvN (fun k => ∃ l, Vis E pri o v l ∧ l.length = k) (p.count o)
theorem vis_bound (hp : ∀ v, pri v = p.getD v 0) (hE : ∀ a b, E a b → b < p.length) (hc : ∀ a b, E a b → pri a = o → ¬ Cyc E pri a) {v : Nat} {l : List Nat} (hv : v < p.length) (h : Vis E pri o v l) : l.length ≤ p.count o := by
  rw [← count_pos_at]
  refine nodup_sub (h.nodup hc) fun x hx => ?_
  obtain ⟨h1, h2⟩ := h.mem x hx
  refine List.mem_filter.2 ⟨List.mem_range.2 ?_, by rw [← hp]; simpa using h1⟩
  exact Rch.closed (C := fun x => x < p.length) (fun a b _ e => hE a b e.1) h2 hv
theorem vis_edge (hp : ∀ v, pri v = p.getD v 0) (hE : ∀ a b, E a b → b < p.length) (hc : ∀ a b, E a b → pri a = o → ¬ Cyc E pri a) {v w : Nat} (hv : v < p.length) (e : E v w) (h : pri v ≤ o) : mvV E pri p o w + (if pri v = o then 1 else 0) ≤ mvV E pri p o v := by
  have key : ∀ l, Vis E pri o v l → l.length ≤ mvV E pri p o v := fun l hl => mvN_ge (Q := fun k => ∃ l, Vis E pri o v l ∧ l.length = k) ⟨l, hl, rfl⟩ (vis_bound hp hE hc hv hl)
  rcases mvN_is (Q := fun k => ∃ l, Vis E pri o w l ∧ l.length = k) (B := p.count o) with h0 | ⟨l, hl, hk⟩
  · have h1 := key _ (.one h)
    have h2 : mvV E pri p o w = 0 := h0
    rw [h2]
    split
    · rename_i e2; rw [if_pos e2] at h1; simpa using h1
    · omega
  · have h1 := key _ (.step h e hl)
    have h2 : mvV E pri p o w = l.length := hk.symm
    rw [h2]
    split
    · rename_i e2; rw [if_pos e2] at h1; simpa using h1
    · rename_i e2; rw [if_neg e2] at h1; simpa using h1
end
/-- Scales that belong to the priorities p. -/
structure OddS (p odd many : List Int) : Prop where
  dec : odd.Pairwise (· > ·)
  all : ∀ v, v < p.length → p.getD v 0 % 2 ≠ 0 → p.getD v 0 ∈ odd
  cnt : many = odd.map fun o => ((p.count o : Nat) : Int)
theorem abv_cons {o : Int} {odd : List Int} {q : Int} : abv (o :: odd) q = if q ≤ o then abv odd q + 1 else 0 := by
  unfold abv
  by_cases e : q ≤ o
  · rw [if_pos e, List.takeWhile_cons, if_pos (decide_eq_true e)]; rfl
  · rw [if_neg e, List.takeWhile_cons, if_neg (by simpa using e)]; rfl
theorem abv_at {odd : List Int} {q : Int} (hd : odd.Pairwise (· > ·)) (hq : q ∈ odd) : 0 < abv odd q ∧ odd.getD (abv odd q - 1) 0 = q := by
  induction odd with
  | nil => exact absurd hq List.not_mem_nil
  | cons o odd ih =>
    obtain ⟨h1, h2⟩ := List.pairwise_cons.1 hd
    rw [abv_cons]
    rcases List.mem_cons.1 hq with rfl | hq
    · rw [if_pos (Int.le_refl _)]
      have h0 : abv odd q = 0 := by
        cases odd with
        | nil => rfl
        | cons b t =>
          have := h1 b List.mem_cons_self
          rw [abv_cons, if_neg (by omega)]
      rw [h0]; exact ⟨by omega, rfl⟩
    · have h3 := h1 q hq
      obtain ⟨h4, h5⟩ := ih h2 hq
      rw [if_pos (by omega)]
      refine ⟨by omega, ?_⟩
      rw [show abv odd q + 1 - 1 = (abv odd q - 1) + 1 by omega]
      exact h5
theorem abv_lt {odd : List Int} {q : Int} {i : Nat} (h : i < abv odd q) : i < odd.length ∧ q ≤ odd.getD i 0 := (abv_step (Nat.le_of_lt h)).2 h
theorem wf_map {α : Type} {f m : α → Int} : ∀ {l : List α}, (∀ x, x ∈ l → 0 ≤ f x ∧ f x ≤ m x) → wfL (l.map m) (l.map f)
  | [], _ => trivial
  | x :: l, h => ⟨h x List.mem_cons_self, wf_map fun y hy => h y (List.mem_cons_of_mem _ hy)⟩
theorem getD_mapI {f : Int → Int} {l : List Int} {i : Nat} (h : i < l.length) : (l.map f).getD i 0 = f (l.getD i 0) := by
  simp [List.getD_eq_getElem?_getD, h]
/-- The digits of a position. -/
noncomputable def digV (E : Nat → Nat → Prop) (pri : Nat → Int) (p odd : List Int) (v : Nat) : List Int := odd.map fun o => ((mvV E pri p o v : Nat) : Int)
theorem digV_wf {E : Nat → Nat → Prop} {pri : Nat → Int} {p odd many : List Int} (hO : OddS p odd many) {v : Nat} : wfL many (digV E pri p odd v) := by
  rw [hO.cnt]
  refine wf_map fun x _ => ⟨by omega, ?_⟩
  have : mvV E pri p x v ≤ p.count x := mvN_le
  omega
/-- Along a step the digits are at least prog. -/
theorem digV_prog {E : Nat → Nat → Prop} {pri : Nat → Int} {p odd many : List Int} (hO : OddS p odd many) (hp : ∀ v, pri v = p.getD v 0) (hE : ∀ a b, E a b → a < p.length ∧ b < p.length) (hc : ∀ a b, E a b → pri a % 2 ≠ 0 → ¬ Cyc E pri a) (hod : ∀ o, o ∈ odd → o % 2 ≠ 0) {v w : Nat} (e : E v w) :
    progV odd many (nvl many (digV E pri p odd w)) (pri v) ≤ nvl many (digV E pri p odd v) := by
  have hlen : odd.length = many.length := by rw [hO.cnt, List.length_map]
  have hpos : posL many := wfL_pos (digV_wf (E := E) (pri := pri) (v := v) hO)
  have hst : ∀ i, i < abv odd (pri v) → mvV E pri p (odd.getD i 0) w + (if pri v = odd.getD i 0 then 1 else 0) ≤ mvV E pri p (odd.getD i 0) v := fun i hi => by
    obtain ⟨h1, h2⟩ := abv_lt hi
    have hm : odd.getD i 0 ∈ odd := by rw [List.getD_eq_getElem?_getD, List.getElem?_eq_getElem h1]; exact List.getElem_mem h1
    exact vis_edge hp (fun a b h => (hE a b h).2) (fun a b h h3 => hc a b h (by rw [h3]; exact hod _ hm)) (hE v w e).1 e h2
  refine prog_le hpos hlen (digV_wf hO) (digV_wf hO) (fun i hi => ?_) fun hq => ?_
  · obtain ⟨h1, _⟩ := abv_lt hi
    have := hst i hi
    unfold digV
    rw [getD_mapI h1, getD_mapI h1]
    omega
  · have hm : pri v ∈ odd := by rw [hp]; exact hO.all v (hE v w e).1 (by rw [← hp]; exact hq)
    obtain ⟨h1, h2⟩ := abv_at hO.dec hm
    have h3 := hst (abv odd (pri v) - 1) (by omega)
    rw [h2, if_pos rfl] at h3
    obtain ⟨h4, _⟩ := abv_lt (odd := odd) (q := pri v) (i := abv odd (pri v) - 1) (by omega)
    refine ⟨h1, ?_⟩
    unfold digV
    rw [getD_mapI h4, getD_mapI h4, h2]
    omega
end
section
open Go Pl
/-- From choices by which 0 wins its positions: measures below top there. -/
theorem pre_of_sol {g : Gm} {odd many : List Int} {W : Nat → Int} {c : Nat → Nat} (hO : OddS g.pri odd many) (hod : ∀ o, o ∈ odd → o % 2 ≠ 0) (hpl : g.pri.length = g.own.length) (hrow : ∀ v, v < g.own.length → ∀ t, t ∈ rws g.nxt v → t < g.own.length) (hr : ∀ v, v < g.own.length → 0 < (g.nxt.getD v []).length)
    (hS : Sol (fun v => g.own.getD v 0) (fun v => g.pri.getD v 0) (rws g.nxt) (fun v => v < g.own.length) W c 0) : ∃ l, Pre g odd many l ∧ ∀ v, v < g.own.length → W v = 0 → l.getD v 0 < rpr many := by
  have hpos : posL many := wfL_pos (digV_wf (E := fun _ _ => False) (pri := fun v => g.pri.getD v 0) (v := 0) hO)
  have hR := rpr_pos hpos
  let E := Stp (fun v => g.own.getD v 0) (rws g.nxt) (fun v => v < g.own.length) W c 0
  let f : Nat → Int := fun v => if W v = 0 then nvl many (digV E (fun v => g.pri.getD v 0) g.pri odd v) else rpr many
  have hf : ∀ v, 0 ≤ f v ∧ f v ≤ rpr many ∧ (W v = 0 → f v < rpr many) := fun v => by
    have h := nvl_bd (digV_wf (E := E) (pri := fun v => g.pri.getD v 0) (v := v) hO)
    dsimp only [f]
    split
    · exact ⟨h.1, by omega, fun _ => h.2⟩
    · rename_i h2; exact ⟨by omega, by omega, fun h3 => absurd h3 h2⟩
  have hE : ∀ a b, E a b → a < g.pri.length ∧ b < g.pri.length := fun a b e => ⟨by rw [hpl]; exact e.1.1, by rw [hpl]; exact e.2.1⟩
  have hcy : ∀ a b, E a b → g.pri.getD a 0 % 2 ≠ 0 → ¬ Cyc E (fun v => g.pri.getD v 0) a := fun a b e h => hS.cyc a e.1.1 e.1.2 h
  have hg : ∀ v, v < g.own.length → ((List.range g.own.length).map f).getD v 0 = f v := fun v hv => by simp [List.getD_eq_getElem?_getD, hv]
  have hask : ∀ v r, v < g.own.length → r < (g.nxt.getD v []).length → askV g odd many ((List.range g.own.length).map f) v r = progV odd many (f ((rws g.nxt v).getD r 0)) (g.pri.getD v 0) := fun v r hv hr' => by
    unfold askV
    rw [← rws_getD, hg]
    refine hrow v hv _ ?_
    rw [List.getD_eq_getElem?_getD, List.getElem?_eq_getElem (by rw [rws_len]; exact hr')]
    exact List.getElem_mem _
  have hstep : ∀ v t, W v = 0 → W t = 0 → E v t → progV odd many (f t) (g.pri.getD v 0) ≤ f v := fun v t h1 h2 e => by
    have := digV_prog (pri := fun v => g.pri.getD v 0) hO (fun _ => rfl) hE hcy hod e
    dsimp only [f]
    rw [if_pos h1, if_pos h2]
    exact this
  refine ⟨(List.range g.own.length).map f, ⟨⟨by simp, fun v hv => ?_⟩, fun v hv => ?_⟩, fun v hv h => by rw [hg v hv]; exact (hf v).2.2 h⟩
  · rw [hg v hv]; exact ⟨(hf v).1, (hf v).2.1⟩
  · rw [hg v hv]
    have hm : ∀ t, t ∈ rws g.nxt v → ∃ r, r < (g.nxt.getD v []).length ∧ (rws g.nxt v).getD r 0 = t := fun t ht => by
      obtain ⟨r, h1, h2⟩ := List.getElem_of_mem ht
      refine ⟨r, by rw [rws_len] at h1; exact h1, ?_⟩
      rw [List.getD_eq_getElem?_getD, List.getElem?_eq_getElem h1]; exact h2
    by_cases hw : W v = 0
    · by_cases ho : g.own.getD v 0 = 0
      · obtain ⟨h1, h2, h3⟩ := hS.mine v hv hw ho
        obtain ⟨r, h4, h5⟩ := hm _ h1
        have h6 := (bB_min (g := g) (odd := odd) (many := many) (l := (List.range g.own.length).map f) ho (Nat.lt_of_le_of_lt (Nat.zero_le _) h4)).1 r h4
        rw [hask v r hv h4, h5] at h6
        exact Int.le_trans h6 (hstep v _ hw h3 ⟨⟨hv, hw⟩, h2, fun _ => rfl, fun h => absurd ho h⟩)
      · obtain ⟨_, r, h4, h5⟩ := bB_max (g := g) (odd := odd) (many := many) (l := (List.range g.own.length).map f) ho (hr v hv)
        show bB g odd many _ v _ ≤ _
        rw [h5, hask v r hv h4]
        have hmem : (rws g.nxt v).getD r 0 ∈ rws g.nxt v := by
          rw [List.getD_eq_getElem?_getD, List.getElem?_eq_getElem (by rw [rws_len]; exact h4)]
          exact List.getElem_mem _
        have hlt := hrow v hv _ hmem
        exact hstep v _ hw (hS.his v hv hw ho _ hmem hlt) ⟨⟨hv, hw⟩, hlt, fun h => absurd h ho, fun _ => hmem⟩
    · have : f v = rpr many := if_neg hw
      rw [this]
      obtain ⟨r, h4, h5⟩ := best_ask (odd := odd) (many := many) (l := (List.range g.own.length).map f) (hr v hv)
      rw [h5, hask v r hv h4]
      exact (progV_bd hpos (hf _).1 (hf _).2.1).2
/-- There is a least measure. -/
theorem least_ex {g : Gm} {odd many : List Int} (hp : posL many) (hrow : ∀ v, v < g.own.length → ∀ t, t ∈ rws g.nxt v → t < g.own.length) (hr : ∀ v, v < g.own.length → 0 < (g.nxt.getD v []).length) : Least g odd many (leastL g odd many) := by
  have hR := rpr_pos hp
  have htop : Pre g odd many (List.replicate g.own.length (rpr many)) := by
    have hg : ∀ v, v < g.own.length → (List.replicate g.own.length (rpr many)).getD v 0 = rpr many := fun v hv => by simp [List.getD_eq_getElem?_getD, hv]
    have hLR : LR g many (List.replicate g.own.length (rpr many)) := ⟨by simp, fun v hv => by rw [hg v hv]; omega⟩
    exact { hLR with ok := fun v hv => by rw [hg v hv]; exact (best_bd hp hLR (hr v hv) (hrow v hv)).2 }
  have hmin : ∀ v, ∃ l, Pre g odd many l ∧ ∀ l', Pre g odd many l' → v < g.own.length → l.getD v 0 ≤ l'.getD v 0 := fun v => by
    have key : ∀ (k : Nat) (l : List Int), Pre g odd many l → (l.getD v 0).toNat ≤ k → ∃ l, Pre g odd many l ∧ ∀ l', Pre g odd many l' → v < g.own.length → l.getD v 0 ≤ l'.getD v 0 := fun k => by
      induction k with
      | zero => intro l hl hk; exact ⟨l, hl, fun l' hl' hv => by have := (hl'.rng v hv).1; omega⟩
      | succ k ih =>
        intro l hl hk
        by_cases h : ∃ l', Pre g odd many l' ∧ v < g.own.length ∧ l'.getD v 0 < l.getD v 0
        · obtain ⟨l', h1, h2, h3⟩ := h
          have := (h1.rng v h2).1
          exact ih l' h1 (by omega)
        · exact ⟨l, hl, fun l' hl' hv => Int.not_lt.1 fun h3 => h ⟨l', hl', hv, h3⟩⟩
    exact key _ _ htop (Nat.le_refl _)
  obtain ⟨F, hF⟩ : ∃ F : Nat → List Int, ∀ v, Pre g odd many (F v) ∧ ∀ l', Pre g odd many l' → v < g.own.length → (F v).getD v 0 ≤ l'.getD v 0 := ⟨fun v => Classical.choose (hmin v), fun v => Classical.choose_spec (hmin v)⟩
  have hg : ∀ v, v < g.own.length → ((List.range g.own.length).map fun v => (F v).getD v 0).getD v 0 = (F v).getD v 0 := fun v hv => by simp [List.getD_eq_getElem?_getD, hv]
  have hLR : LR g many ((List.range g.own.length).map fun v => (F v).getD v 0) := ⟨by simp, fun v hv => by rw [hg v hv]; exact (hF v).1.rng v hv⟩
  have hL : Least g odd many ((List.range g.own.length).map fun v => (F v).getD v 0) := { hLR with
    ok := fun v hv => by
      rw [hg v hv]
      refine Int.le_trans (best_mono hp hLR (hF v).1.toLR (hr v hv) (hrow v hv) fun t ht => ?_) ((hF v).1.ok v hv)
      rw [hg t (hrow v hv t ht)]
      exact (hF t).2 _ (hF v).1 (hrow v hv t ht)
    low := fun l' hl' v hv => by rw [hg v hv]; exact (hF v).2 l' hl' hv }
  rw [leastL_eq hL]; exact hL
theorem prog_top {odd many : List Int} {q : Int} : progV odd many (rpr many) q = rpr many := by unfold progV; rw [if_pos rfl]
/-- Choices that hold the measures win for 0 wherever these are below top. -/
theorem sol_of_pre {g : Gm} {odd many l : List Int} {c : Nat → Nat} (hp : posL many) (hrow : ∀ v, v < g.own.length → ∀ t, t ∈ rws g.nxt v → t < g.own.length) (hr : ∀ v, v < g.own.length → 0 < (g.nxt.getD v []).length) (hl : Pre g odd many l)
    (hc : ∀ v, v < g.own.length → g.own.getD v 0 = 0 → l.getD v 0 < rpr many → c v ∈ rws g.nxt v ∧ progV odd many (l.getD (c v) 0) (g.pri.getD v 0) ≤ l.getD v 0) :
    Sol (fun v => g.own.getD v 0) (fun v => g.pri.getD v 0) (rws g.nxt) (fun v => v < g.own.length) (fun v => if l.getD v 0 < rpr many then 0 else 1) c 0 := by
  have hW : ∀ v, (if l.getD v 0 < rpr many then (0 : Int) else 1) = 0 → l.getD v 0 < rpr many := fun v h => by
    by_cases e : l.getD v 0 < rpr many
    · exact e
    · rw [if_neg e] at h; cases h
  have hlow : ∀ v t, t < g.own.length → l.getD v 0 < rpr many → progV odd many (l.getD t 0) (g.pri.getD v 0) ≤ l.getD v 0 → l.getD t 0 < rpr many := fun v t ht h1 h2 => by
    have h3 := (hl.rng t ht).2
    rcases Int.lt_or_eq_of_le h3 with h4 | h4
    · exact h4
    · rw [h4, prog_top] at h2; omega
  have hhis : ∀ v, v < g.own.length → g.own.getD v 0 ≠ 0 → ∀ t, t ∈ rws g.nxt v → progV odd many (l.getD t 0) (g.pri.getD v 0) ≤ l.getD v 0 := fun v hv ho t ht => by
    obtain ⟨r, h1, h2⟩ := List.getElem_of_mem ht
    rw [rws_len] at h1
    have h3 := (bB_max (g := g) (odd := odd) (many := many) (l := l) ho (hr v hv)).1 r h1
    have h4 := hl.ok v hv
    have h5 : askV g odd many l v r = progV odd many (l.getD t 0) (g.pri.getD v 0) := by
      have h6 : (rws g.nxt v).getD r 0 = t := by rw [List.getD_eq_getElem?_getD, List.getElem?_eq_getElem (by rw [rws_len]; exact h1)]; exact h2
      unfold askV
      rw [← rws_getD, h6]
    rw [h5] at h3
    exact Int.le_trans h3 h4
  refine ⟨fun v hv h ho => ?_, fun v hv h ho t ht hk => ?_, fun w hw h hpar => ?_⟩
  · obtain ⟨h1, h2⟩ := hc v hv ho (hW v h)
    have h3 := hrow v hv _ h1
    exact ⟨h1, h3, if_pos (hlow v _ h3 (hW v h) h2)⟩
  · exact if_pos (hlow v t hk (hW v h) (hhis v hv ho t ht))
  · refine meas_cyc (l := fun v => l.getD v 0) (odd := odd) (many := many) (D := fun v => v < g.own.length ∧ l.getD v 0 < rpr many) hp (fun a b e => ?_) (fun a ha => ⟨(hl.rng a ha.1).1, by omega⟩) (fun a b e => ?_) hpar
    · obtain ⟨⟨e1, e2⟩, e3, e4, e5⟩ := e
      refine ⟨⟨e1, hW a e2⟩, e3, ?_⟩
      by_cases ho : g.own.getD a 0 = 0
      · obtain ⟨h1, h2⟩ := hc a e1 ho (hW a e2)
        rw [e4 ho]; exact hlow a _ (hrow a e1 _ h1) (hW a e2) h2
      · exact hlow a b e3 (hW a e2) (hhis a e1 ho b (e5 ho))
    · obtain ⟨⟨e1, e2⟩, e3, e4, e5⟩ := e
      by_cases ho : g.own.getD a 0 = 0
      · rw [e4 ho]; exact (hc a e1 ho (hW a e2)).2
      · exact hhis a e1 ho b (e5 ho)
/-- The least measure is below top exactly where 0 wins. -/
theorem least_win {g : Gm} {odd many : List Int} (hO : OddS g.pri odd many) (hod : ∀ o, o ∈ odd → o % 2 ≠ 0) (hpl : g.pri.length = g.own.length) (hrow : ∀ v, v < g.own.length → ∀ t, t ∈ rws g.nxt v → t < g.own.length) (hr : ∀ v, v < g.own.length → 0 < (g.nxt.getD v []).length)
    (hown : ∀ v, v < g.own.length → g.own.getD v 0 = 0 ∨ g.own.getD v 0 = 1) (hpri : ∀ v, v < g.own.length → 0 ≤ g.pri.getD v 0) {W : Nat → Int} {c d : Nat → Nat} (hW : ∀ v, v < g.own.length → W v = 0 ∨ W v = 1)
    (h0 : Sol (fun v => g.own.getD v 0) (fun v => g.pri.getD v 0) (rws g.nxt) (fun v => v < g.own.length) W c 0) (h1 : Sol (fun v => g.own.getD v 0) (fun v => g.pri.getD v 0) (rws g.nxt) (fun v => v < g.own.length) W d 1)
    {v : Nat} (hv : v < g.own.length) : (leastL g odd many).getD v 0 < rpr many ↔ W v = 0 := by
  have hpos : posL many := wfL_pos (digV_wf (E := fun _ _ => False) (pri := fun v => g.pri.getD v 0) (v := 0) hO)
  have hL := least_ex (odd := odd) hpos hrow hr
  constructor
  · intro h
    have hc : ∀ v, ∃ t, v < g.own.length → g.own.getD v 0 = 0 → t ∈ rws g.nxt v ∧ progV odd many ((leastL g odd many).getD t 0) (g.pri.getD v 0) ≤ (leastL g odd many).getD v 0 := fun v => by
      by_cases h : v < g.own.length ∧ g.own.getD v 0 = 0
      · obtain ⟨r, h4, h5⟩ := best_ask (odd := odd) (many := many) (l := leastL g odd many) (hr v h.1)
        refine ⟨(rws g.nxt v).getD r 0, fun _ _ => ⟨?_, ?_⟩⟩
        · rw [List.getD_eq_getElem?_getD, List.getElem?_eq_getElem (by rw [rws_len]; exact h4)]
          exact List.getElem_mem _
        · have h6 := hL.ok v h.1
          rw [h5] at h6
          unfold askV at h6
          rw [rws_getD]; exact h6
      · exact ⟨0, fun a b => absurd ⟨a, b⟩ h⟩
    have hs := sol_of_pre (c := fun v => Classical.choose (hc v)) hpos hrow hr hL.toPre fun v hv ho _ => Classical.choose_spec (hc v) hv ho
    exact (hW v hv).resolve_right (sol_apart (n := g.own.length) (fun _ h => h) hs h1 hown hv (if_pos h))
  · intro h
    obtain ⟨l, hl, hlt⟩ := pre_of_sol (odd := odd) (many := many) hO hod hpl hrow hr h0
    exact Int.lt_of_le_of_lt (hL.low l hl v hv) (hlt v hv h)
end
end Go.Proofs.Ytgminhedbeblpaa.Cal
namespace Go.Proofs.Ytgminhedbeblpaa.Cal
section
open Go Pl
theorem odN_mem {p : List Int} {o : Int} : ∀ {k : Nat}, o ∈ odN p k ↔ ∃ j : Nat, j < k ∧ o = 60 - (j : Int) ∧ o % 2 = 1 ∧ 0 < p.count o
  | 0 => ⟨fun h => absurd h List.not_mem_nil, fun ⟨j, h, _⟩ => absurd h (Nat.not_lt_zero j)⟩
  | k + 1 => by
    have ih := odN_mem (p := p) (o := o) (k := k)
    constructor
    · intro h
      rw [odN] at h
      split at h
      · rename_i hc
        rcases List.mem_append.1 h with h | h
        · obtain ⟨j, h1, h2⟩ := ih.1 h; exact ⟨j, by omega, h2⟩
        · rw [List.mem_singleton.1 h]; exact ⟨k, Nat.lt_succ_self k, rfl, hc.1, hc.2⟩
      · obtain ⟨j, h1, h2⟩ := ih.1 h; exact ⟨j, by omega, h2⟩
    · rintro ⟨j, h1, h2, h3, h4⟩
      rw [odN]
      by_cases e : j = k
      · subst e
        rw [if_pos ⟨by rw [← h2]; exact h3, by rw [← h2]; exact h4⟩, h2]
        exact List.mem_append_right _ List.mem_cons_self
      · have := ih.2 ⟨j, by omega, h2, h3, h4⟩
        split
        · exact List.mem_append_left _ this
        · exact this
theorem odN_dec {p : List Int} : ∀ k : Nat, (odN p k).Pairwise (· > ·)
  | 0 => List.Pairwise.nil
  | k + 1 => by
    rw [odN]
    split
    · rw [List.pairwise_append]
      refine ⟨odN_dec k, List.pairwise_singleton _ _, fun a ha b hb => ?_⟩
      obtain ⟨j, h1, h2, _⟩ := odN_mem.1 ha
      rw [List.mem_singleton.1 hb]
      show 60 - (k : Int) < a
      omega
    · exact odN_dec k
theorem odn_ods {g : Gm} (hG : GOk g) : OddS g.pri (odN g.pri 61) (mnN g.pri 61) := by
  refine ⟨odN_dec 61, fun v hv ho => ?_, rfl⟩
  have hb := hG.pri v (by rw [← hG.pl]; exact hv)
  refine odN_mem.2 ⟨(60 - g.pri.getD v 0).toNat, by omega, by omega, by omega, List.count_pos_iff.2 ?_⟩
  rw [List.getD_eq_getElem?_getD, List.getElem?_eq_getElem hv]
  exact List.getElem_mem _
theorem odn_odd {p : List Int} : ∀ o, o ∈ odN p 61 → o % 2 ≠ 0 := fun o h => by
  obtain ⟨j, _, _, h, _⟩ := odN_mem.1 h; omega
noncomputable def meaV (g : Gm) (v : Nat) : Int := (leastL g (odN g.pri 61) (mnN g.pri 61)).getD v 0
theorem mea_least {g : Gm} (hG : GOk g) : Least g (odN g.pri 61) (mnN g.pri 61) (leastL g (odN g.pri 61) (mnN g.pri 61)) := least_ex mnN_pos hG.row fun v hv => (hG.len v hv).1
theorem mea_bd {g : Gm} (hG : GOk g) {v : Nat} (hv : v < g.own.length) : 0 ≤ meaV g v ∧ meaV g v ≤ rpr (mnN g.pri 61) := (mea_least hG).rng v hv
theorem meaF_eq {g : Gm} {v : Nat} : meaF g v = deM (mnN g.pri 61) (meaV g v) := rfl
theorem deM_fst {many : List Int} {V : Int} : (deM many V).1 = decide (V = rpr many) := by
  unfold deM
  split
  · rename_i h; rw [decide_eq_true h]
  · rename_i h; rw [decide_eq_false h]
/-- Player 0 wins exactly where the measure is not top. -/
theorem mea_win {g : Gm} (hV : Valid g) {v : Nat} (hv : v < g.own.length) : meaV g v < rpr (mnN g.pri 61) ↔ (winA g).getD v 0 = 0 := by
  have hG := gok hV
  obtain ⟨h1, c, h2, h3⟩ := win_sol hV
  exact least_win (odn_ods hG) odn_odd hG.pl hG.row (fun v hv => (hG.len v hv).1) hG.own (fun v hv => (hG.pri v hv).1) h1 h2 h3 hv
theorem mea_top {g : Gm} (hV : Valid g) {v : Nat} (hv : v < g.own.length) : (meaF g v).1 = decide ((winA g).getD v 0 = 1) := by
  have hG := gok hV
  have h1 := mea_win hV hv
  have h2 := mea_bd hG hv
  have h3 := (win_sol hV).1 v hv
  rw [meaF_eq, deM_fst]
  by_cases h : (winA g).getD v 0 = 1
  · rw [decide_eq_true h, decide_eq_true]
    have : ¬ meaV g v < rpr (mnN g.pri 61) := fun hl => by have := h1.1 hl; omega
    omega
  · rw [decide_eq_false h, decide_eq_false]
    have := h1.2 (by omega)
    omega
theorem mea_fit {g : Gm} (hG : GOk g) {v : Nat} (hv : v < g.own.length) : okM (mnN g.pri 61) (meaF g v) ∧ enM (mnN g.pri 61) (meaF g v) = meaV g v := by
  have := en_de (many := mnN g.pri 61) mnN_pos (mea_bd hG hv).1 (mea_bd hG hv).2
  exact ⟨this.2, this.1⟩
/-- What Prog answers about a measure and a position's priority. -/
theorem mea_prog {g : Gm} (hV : Valid g) {u v : Nat} (hu : u < g.own.length) (hv : v < g.own.length) : prgF g (meaF g u) (g.pri.getD v 0) = (deM (mnN g.pri 61) (progV (odN g.pri 61) (mnN g.pri 61) (meaV g u) (g.pri.getD v 0)), 0) := by
  have hG := gok hV
  have hp := hG.pri v hv
  obtain ⟨h1, h2⟩ := mea_fit hG hu
  unfold prgF
  rw [if_neg (by rw [validB_true hV]; decide), if_neg (by rw [fitB_iff.2 h1]; decide), if_neg (by omega), if_neg, h2]
  rintro ⟨h3, h4⟩
  exact h4 ((odn_ods hG).all v (by rw [hG.pl]; exact hv) (by omega))
/-- What MeasureMeans asks of a move. -/
noncomputable def mmC (g : Gm) (v : Nat) (u : Int) : Bool := (!(meaF g v).1 && !(prgF g (meaF g u.toNat) (g.pri.getD v 0)).1.1) && decide (lssI (prgF g (meaF g u.toNat) (g.pri.getD v 0)).1 (meaF g v) ≤ 0)
theorem mmC_iff {g : Gm} (hV : Valid g) {v : Nat} {u : Int} (hv : v < g.own.length) (hu : u.toNat < g.own.length) : mmC g v u = true ↔ meaV g v < rpr (mnN g.pri 61) ∧ progV (odN g.pri 61) (mnN g.pri 61) (meaV g u.toNat) (g.pri.getD v 0) ≤ meaV g v := by
  have hG := gok hV
  have hb := mea_bd hG hv
  have hb2 := mea_bd hG hu
  have hN := progV_bd (odd := odN g.pri 61) (q := g.pri.getD v 0) (many := mnN g.pri 61) mnN_pos hb2.1 hb2.2
  unfold mmC
  rw [mea_prog hV hu hv]
  dsimp only
  rw [meaF_eq (v := v), deM_fst, deM_fst, Bool.and_eq_true, Bool.and_eq_true, Bool.not_eq_true', Bool.not_eq_true', decide_eq_false_iff_not, decide_eq_false_iff_not, decide_eq_true_eq]
  have hl := (lssI_V (many := mnN g.pri 61) mnN_pos hN.1 hN.2 hb.1 hb.2).2
  constructor
  · rintro ⟨⟨h1, h2⟩, h3⟩
    refine ⟨by omega, ?_⟩
    have : ¬ 0 < lssI (deM (mnN g.pri 61) (progV (odN g.pri 61) (mnN g.pri 61) (meaV g u.toNat) (g.pri.getD v 0))) (deM (mnN g.pri 61) (meaV g v)) := by omega
    rw [hl] at this
    omega
  · rintro ⟨h1, h2⟩
    refine ⟨⟨by omega, by omega⟩, ?_⟩
    have : ¬ 0 < lssI (deM (mnN g.pri 61) (progV (odN g.pri 61) (mnN g.pri 61) (meaV g u.toNat) (g.pri.getD v 0))) (deM (mnN g.pri 61) (meaV g v)) := by rw [hl]; omega
    omega
theorem mmC_some {g : Gm} (hV : Valid g) {v : Nat} (hv : v < g.own.length) (h0 : g.own.getD v 0 = 0) (ht : meaV g v < rpr (mnN g.pri 61)) : ∃ j, j < (g.nxt.getD v []).length ∧ mmC g v ((g.nxt.getD v []).getD j 0) = true := by
  have hG := gok hV
  obtain ⟨j, h1, h2⟩ := best_ask (g := g) (odd := odN g.pri 61) (many := mnN g.pri 61) (l := leastL g (odN g.pri 61) (mnN g.pri 61)) (v := v) (hG.len v hv).1
  refine ⟨j, h1, (mmC_iff hV hv (by have := hG.at' v hv j h1; omega)).2 ⟨ht, ?_⟩⟩
  have := (mea_least hG).ok v hv
  rw [h2] at this
  exact this
/-- A strategy by prog wins wherever the measure is not top. -/
theorem mea_from {g : Gm} (hV : Valid g) {c : List Int} (hc : ∀ v, v < g.own.length → g.own.getD v 0 = 0 → (c.getD v 0).toNat ∈ rws g.nxt v ∧ (meaV g v < rpr (mnN g.pri 61) → mmC g v (c.getD v 0) = true)) {v : Nat} (hv : v < g.own.length) (ht : (meaF g v).1 = false) : (fromL g 0 c).getD v false = true := by
  have hG := gok hV
  have hs := sol_of_pre (g := g) (odd := odN g.pri 61) (many := mnN g.pri 61) (l := leastL g (odN g.pri 61) (mnN g.pri 61)) (c := fun v => (c.getD v 0).toNat) mnN_pos hG.row (fun v hv => (hG.len v hv).1) (mea_least hG).toPre (fun v hv h0 hl => by
    obtain ⟨h1, h2⟩ := hc v hv h0
    exact ⟨h1, ((mmC_iff hV hv (hG.row v hv _ h1)).1 (h2 hl)).2⟩)
  have hl : meaV g v < rpr (mnN g.pri 61) := by
    rw [meaF_eq, deM_fst, decide_eq_false_iff_not] at ht
    have := mea_bd hG hv
    omega
  have := from_of_sol hG hs (c := c) (fun v _ _ _ => rfl) hv (if_pos hl)
  have e : (fromL g 0 c).getD v false = !(aloneL (fromG g 0 c) (1 - 0)).getD v false := by simp [fromL, List.getD_eq_getElem?_getD, hv]
  rw [e, Bool.not_eq_true']
  refine Bool.eq_false_iff.2 fun h => this ((aloneL_getD (g := fromG g 0 c) (by exact hv)).1 h)
theorem mea_small {g : Gm} (hV : Valid g) : smlF g g.own.length (meaF g) = (true, 0) := by
  have hG := gok hV
  have hL := mea_least hG
  unfold smlF
  rw [if_neg (by rw [validB_true hV]; decide), if_neg (fun h => h rfl), if_neg]
  · have e : mlF (mnN g.pri 61) g.own.length (meaF g) = leastL g (odN g.pri 61) (mnN g.pri 61) := mlF_is mnN_pos hL.toLR
    rw [e, decide_eq_true fun v hv => ?_]
    rw [(mea_fit hG hv).2]
    exact hL.ok v hv
  · rintro ⟨j, h1, h2⟩
    rw [fitB_iff.2 (mea_fit hG h1).1] at h2; cases h2
/-- None of the measures that Small accepts is less. -/
theorem mea_low {g : Gm} (hV : Valid g) {n : Nat} {F : Nat → Bool × List Int} (h1 : (smlF g n F).1 = true) : n = g.own.length ∧ ∀ v, v < g.own.length → lssI (meaF g v) (F v) ≤ 0 ∧ ((meaF g v).1 = false → (F v).1 = false → (meaF g v).2.length = (F v).2.length) := by
  have hG := gok hV
  have hL := mea_least hG
  unfold smlF at h1
  rw [if_neg (by rw [validB_true hV]; decide)] at h1
  by_cases hn : n = g.own.length
  case neg => rw [if_pos hn] at h1; cases h1
  subst hn
  rw [if_neg (fun h => h rfl)] at h1
  by_cases hf : ∃ j, j < g.own.length ∧ fitB (mnN g.pri 61) (F j) = false
  · rw [if_pos hf] at h1; cases h1
  rw [if_neg hf] at h1
  have h1 := of_decide_eq_true h1
  have hfit : ∀ j, j < g.own.length → okM (mnN g.pri 61) (F j) := fun j hj => by
    refine fitB_iff.1 ?_
    cases e : fitB (mnN g.pri 61) (F j) with
    | true => rfl
    | false => exact absurd ⟨j, hj, e⟩ hf
  have hP : Pre g (odN g.pri 61) (mnN g.pri 61) (mlF (mnN g.pri 61) g.own.length F) := by
    refine ⟨⟨by simp [mlF], fun v hv => ?_⟩, fun v hv => ?_⟩
    · rw [mlF_get hv]; exact okM_bd mnN_pos (hfit v hv)
    · rw [mlF_get hv]; exact h1 v hv
  refine ⟨rfl, fun v hv => ⟨?_, fun ht1 ht2 => ?_⟩⟩
  · have h2 := hL.low _ hP v hv
    rw [mlF_get hv] at h2
    have hb := okM_bd (many := mnN g.pri 61) mnN_pos (hfit v hv)
    have hb2 := mea_bd hG hv
    have h3 := (lssI_V (many := mnN g.pri 61) mnN_pos hb2.1 hb2.2 hb.1 hb.2).2
    rw [de_en (hfit v hv)] at h3
    have : ¬ 0 < lssI (deM (mnN g.pri 61) (meaV g v)) (F v) := fun h => by
      have := h3.1 h
      have h2 : meaV g v ≤ enM (mnN g.pri 61) (F v) := h2
      omega
    rw [meaF_eq]; omega
  · have hw : ∀ m : Bool × List Int, okM (mnN g.pri 61) m → m.1 = false → m.2.length = (mnN g.pri 61).length := fun m h h2 => by
      rcases h with ⟨h3, _⟩ | ⟨_, h3⟩
      · rw [h2] at h3; cases h3
      · exact wfL_len h3
    rw [hw _ (mea_fit hG hv).1 ht1, hw _ (hfit v hv) ht2]
end
end Go.Proofs.Ytgminhedbeblpaa.Cal
