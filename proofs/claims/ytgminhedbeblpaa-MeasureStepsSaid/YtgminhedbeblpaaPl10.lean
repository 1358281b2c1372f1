/- Measures as numbers, plain Lean. -/
import Derived.Test.YtgminhedbeblpaaPl2
set_option linter.unusedVariables false
set_option linter.unusedSimpArgs false
namespace Go.Proofs.Ytgminhedbeblpaa.Cal
open Go Pl

/-- How many lists of digits there are. -/
def rpr : List Int → Int
  | [] => 1
  | m :: ms => (m + 1) * rpr ms
def wfL : List Int → List Int → Prop
  | [], [] => True
  | m :: ms, d :: ds => (0 ≤ d ∧ d ≤ m) ∧ wfL ms ds
  | _, _ => False
def nvl : List Int → List Int → Int
  | _ :: ms, d :: ds => d * rpr ms + nvl ms ds
  | _, _ => 0
def dgl : List Int → Int → List Int
  | [], _ => []
  | _ :: ms, V => V / rpr ms :: dgl ms (V % rpr ms)
def posL (ms : List Int) : Prop := ∀ m, m ∈ ms → 0 ≤ m

theorem rpr_pos : ∀ {ms : List Int}, posL ms → 0 < rpr ms
  | [], _ => by decide
  | m :: ms, h => by
    have h1 := h m List.mem_cons_self
    have h2 := rpr_pos (ms := ms) fun x hx => h x (List.mem_cons_of_mem _ hx)
    exact Int.mul_pos (by omega) h2
theorem wfL_len : ∀ {ms l : List Int}, wfL ms l → l.length = ms.length
  | [], [], _ => rfl
  | [], _ :: _, h => h.elim
  | _ :: _, [], h => h.elim
  | m :: ms, d :: ds, h => by rw [List.length_cons, List.length_cons, wfL_len h.2]
theorem wfL_pos : ∀ {ms l : List Int}, wfL ms l → posL ms
  | [], _, _ => fun x hx => absurd hx List.not_mem_nil
  | _ :: _, [], h => h.elim
  | m :: ms, d :: ds, h => fun x hx => by
    rcases List.mem_cons.1 hx with rfl | hx
    · have := h.1; omega
    · exact wfL_pos h.2 x hx
theorem nvl_bd : ∀ {ms l : List Int}, wfL ms l → 0 ≤ nvl ms l ∧ nvl ms l < rpr ms
  | [], [], _ => ⟨Int.le_refl _, by decide⟩
  | [], _ :: _, h => h.elim
  | _ :: _, [], h => h.elim
  | m :: ms, d :: ds, h => by
    obtain ⟨h1, h2⟩ := nvl_bd h.2
    have h3 := rpr_pos (wfL_pos h.2)
    have h4 : 0 ≤ d * rpr ms := Int.mul_nonneg h.1.1 (Int.le_of_lt h3)
    have h5 : d * rpr ms ≤ m * rpr ms := Int.mul_le_mul_of_nonneg_right h.1.2 (Int.le_of_lt h3)
    have h6 : (m + 1) * rpr ms = m * rpr ms + rpr ms := by rw [Int.add_mul, Int.one_mul]
    show 0 ≤ d * rpr ms + nvl ms ds ∧ d * rpr ms + nvl ms ds < (m + 1) * rpr ms
    omega
theorem dgl_wf : ∀ {ms : List Int} {V : Int}, posL ms → 0 ≤ V → V < rpr ms → wfL ms (dgl ms V) ∧ nvl ms (dgl ms V) = V
  | [], V, _, h1, h2 => ⟨trivial, by have h2 : V < 1 := h2; show 0 = V; omega⟩
  | m :: ms, V, hp, h1, h2 => by
    have hp2 : posL ms := fun x hx => hp x (List.mem_cons_of_mem _ hx)
    have h3 := rpr_pos hp2
    have h2 : V < (m + 1) * rpr ms := h2
    obtain ⟨i1, i2⟩ := dgl_wf (V := V % rpr ms) hp2 (Int.emod_nonneg _ (by omega)) (Int.emod_lt_of_pos _ h3)
    have h5 : 0 ≤ V / rpr ms := Int.ediv_nonneg h1 (Int.le_of_lt h3)
    have h6 : V / rpr ms < m + 1 := Int.ediv_lt_of_lt_mul h3 h2
    refine ⟨⟨⟨h5, by omega⟩, i1⟩, ?_⟩
    show V / rpr ms * rpr ms + nvl ms (dgl ms (V % rpr ms)) = V
    rw [i2, Int.mul_comm]; exact Int.mul_ediv_add_emod V (rpr ms)
theorem dgl_nvl : ∀ {ms l : List Int}, wfL ms l → dgl ms (nvl ms l) = l
  | [], [], _ => rfl
  | [], _ :: _, h => h.elim
  | _ :: _, [], h => h.elim
  | m :: ms, d :: ds, h => by
    obtain ⟨h1, h2⟩ := nvl_bd h.2
    have h3 := rpr_pos (wfL_pos h.2)
    have h4 : (d * rpr ms + nvl ms ds) / rpr ms = d := by
      rw [Int.add_comm, Int.add_mul_ediv_right _ _ (by omega), Int.ediv_eq_zero_of_lt h1 h2]; omega
    have h5 : (d * rpr ms + nvl ms ds) % rpr ms = nvl ms ds := by
      rw [Int.add_comm, Int.add_mul_emod_self_right, Int.emod_eq_of_lt h1 h2]
    show (d * rpr ms + nvl ms ds) / rpr ms :: dgl ms ((d * rpr ms + nvl ms ds) % rpr ms) = d :: ds
    rw [h4, h5, dgl_nvl h.2]

/-- How two lists compare. -/
def cmpL : List Int → List Int → Int
  | [], [] => 0
  | [], _ :: _ => -1
  | _ :: _, [] => 1
  | a :: l, b :: r => if a < b then -1 else if b < a then 1 else cmpL l r
theorem cmp_nv : ∀ {ms a b : List Int}, wfL ms a → wfL ms b → (cmpL a b < 0 ↔ nvl ms a < nvl ms b) ∧ (0 < cmpL a b ↔ nvl ms b < nvl ms a)
  | [], [], [], _, _ => ⟨by show (0 : Int) < 0 ↔ (0 : Int) < 0; omega, by show (0 : Int) < 0 ↔ (0 : Int) < 0; omega⟩
  | [], _ :: _, _, h, _ => h.elim
  | [], [], _ :: _, _, h => h.elim
  | _ :: _, [], _, h, _ => h.elim
  | _ :: _, _ :: _, [], _, h => h.elim
  | m :: ms, a :: l, b :: r, h1, h2 => by
    obtain ⟨i1, i2⟩ := cmp_nv h1.2 h2.2
    obtain ⟨b1, b2⟩ := nvl_bd h1.2
    obtain ⟨b3, b4⟩ := nvl_bd h2.2
    have h3 := rpr_pos (wfL_pos h1.2)
    show ((if a < b then (-1 : Int) else if b < a then 1 else cmpL l r) < 0 ↔ a * rpr ms + nvl ms l < b * rpr ms + nvl ms r) ∧ (0 < (if a < b then (-1 : Int) else if b < a then 1 else cmpL l r) ↔ b * rpr ms + nvl ms r < a * rpr ms + nvl ms l)
    by_cases e : a < b
    · rw [if_pos e]
      have : (a + 1) * rpr ms ≤ b * rpr ms := Int.mul_le_mul_of_nonneg_right (by omega) (Int.le_of_lt h3)
      rw [Int.add_mul, Int.one_mul] at this
      omega
    · rw [if_neg e]
      by_cases e2 : b < a
      · rw [if_pos e2]
        have : (b + 1) * rpr ms ≤ a * rpr ms := Int.mul_le_mul_of_nonneg_right (by omega) (Int.le_of_lt h3)
        rw [Int.add_mul, Int.one_mul] at this
        omega
      · rw [if_neg e2]
        obtain rfl : a = b := by omega
        omega

/-! Digits changed -/
theorem wfL_get : ∀ {ms l : List Int} {i : Nat}, wfL ms l → i < ms.length → 0 ≤ l.getD i 0 ∧ l.getD i 0 ≤ ms.getD i 0
  | [], _, _, _, h => absurd h (Nat.not_lt_zero _)
  | _ :: _, [], _, h, _ => h.elim
  | m :: ms, d :: ds, 0, h, _ => h.1
  | m :: ms, d :: ds, i + 1, h, hi => wfL_get (i := i) h.2 (by simpa using hi)
theorem wfL_set : ∀ {ms l : List Int} {i : Nat} {x : Int}, wfL ms l → 0 ≤ x → x ≤ ms.getD i 0 → wfL ms (l.set i x)
  | [], [], _, _, _, _, _ => trivial
  | [], _ :: _, _, _, h, _, _ => h.elim
  | _ :: _, [], _, _, h, _, _ => h.elim
  | m :: ms, d :: ds, 0, x, h, h1, h2 => ⟨⟨h1, h2⟩, h.2⟩
  | m :: ms, d :: ds, i + 1, x, h, h1, h2 => ⟨h.1, wfL_set (i := i) h.2 h1 h2⟩
theorem nvl_set : ∀ {ms l : List Int} {i : Nat} {x : Int}, wfL ms l → i < ms.length → nvl ms (l.set i x) = nvl ms l + (x - l.getD i 0) * rpr (ms.drop (i + 1))
  | [], _, _, _, _, h => absurd h (Nat.not_lt_zero _)
  | _ :: _, [], _, _, h, _ => h.elim
  | m :: ms, d :: ds, 0, x, h, _ => by
    show x * rpr ms + nvl ms ds = d * rpr ms + nvl ms ds + (x - d) * rpr ms
    rw [Int.sub_mul]; omega
  | m :: ms, d :: ds, i + 1, x, h, hi => by
    have := nvl_set (i := i) (x := x) h.2 (by simpa using hi)
    show d * rpr ms + nvl ms (ds.set i x) = d * rpr ms + nvl ms ds + (x - ds.getD i 0) * rpr (ms.drop (i + 1))
    rw [this]; omega
theorem rpr_drop : ∀ {ms : List Int} {i : Nat}, i < ms.length → rpr (ms.drop i) = (ms.getD i 0 + 1) * rpr (ms.drop (i + 1))
  | [], _, h => absurd h (Nat.not_lt_zero _)
  | m :: ms, 0, _ => rfl
  | m :: ms, i + 1, h => rpr_drop (ms := ms) (i := i) (by simpa using h)
theorem rpr_dvd : ∀ {ms : List Int} {j : Nat}, ∃ t, rpr ms = t * rpr (ms.drop j) ∧ (posL ms → 0 < t)
  | ms, 0 => ⟨1, by simp, fun _ => by decide⟩
  | [], j + 1 => ⟨1, by simp, fun _ => by decide⟩
  | m :: ms, j + 1 => by
    obtain ⟨t, h1, h2⟩ := rpr_dvd (ms := ms) (j := j)
    refine ⟨(m + 1) * t, ?_, fun hp => Int.mul_pos (by have := hp m List.mem_cons_self; omega) (h2 fun x hx => hp x (List.mem_cons_of_mem _ hx))⟩
    show (m + 1) * rpr ms = _
    rw [h1, Int.mul_assoc]; rfl
theorem drop_pos {ms : List Int} {j : Nat} (h : posL ms) : posL (ms.drop j) := fun x hx => h x (List.mem_of_mem_drop hx)
theorem zero_wf : ∀ {ms : List Int}, posL ms → wfL ms (List.replicate ms.length 0) ∧ nvl ms (List.replicate ms.length 0) = 0
  | [], _ => ⟨trivial, rfl⟩
  | m :: ms, h => by
    obtain ⟨h1, h2⟩ := zero_wf (ms := ms) fun x hx => h x (List.mem_cons_of_mem _ hx)
    refine ⟨⟨⟨Int.le_refl _, h m List.mem_cons_self⟩, h1⟩, ?_⟩
    show 0 * rpr ms + nvl ms (List.replicate ms.length 0) = 0
    rw [h2]; omega
/-- The first j digits. -/
theorem pad_nv : ∀ {ms l : List Int} {j : Nat}, wfL ms l → j ≤ ms.length → wfL ms (l.take j ++ List.replicate (ms.length - j) 0) ∧ nvl ms (l.take j ++ List.replicate (ms.length - j) 0) = nvl ms l / rpr (ms.drop j) * rpr (ms.drop j)
  | ms, l, 0, h, _ => by
    obtain ⟨h1, h2⟩ := zero_wf (wfL_pos h)
    obtain ⟨b1, b2⟩ := nvl_bd h
    refine ⟨by simpa using h1, ?_⟩
    rw [List.drop_zero, Int.ediv_eq_zero_of_lt b1 b2]
    simpa using h2
  | [], _, j + 1, _, h => absurd h (Nat.not_succ_le_zero _)
  | _ :: _, [], _ + 1, h, _ => h.elim
  | m :: ms, d :: ds, j + 1, h, hj => by
    obtain ⟨h1, h2⟩ := pad_nv (j := j) h.2 (by simpa using hj)
    have e : (m :: ms).length - (j + 1) = ms.length - j := by rw [List.length_cons]; omega
    rw [e]
    refine ⟨⟨h.1, h1⟩, ?_⟩
    obtain ⟨t, ht, _⟩ := rpr_dvd (ms := ms) (j := j)
    have hR := rpr_pos (drop_pos (j := j) (wfL_pos h.2))
    show d * rpr ms + nvl ms (ds.take j ++ List.replicate (ms.length - j) 0) = (d * rpr ms + nvl ms ds) / rpr (ms.drop j) * rpr (ms.drop j)
    rw [h2]
    have : (d * rpr ms + nvl ms ds) / rpr (ms.drop j) = d * t + nvl ms ds / rpr (ms.drop j) := by
      have e2 : d * rpr ms + nvl ms ds = nvl ms ds + d * t * rpr (ms.drop j) := by rw [ht, Int.mul_assoc]; omega
      rw [e2, Int.add_mul_ediv_right _ _ (by omega)]; omega
    rw [this, Int.add_mul, ht, Int.mul_assoc]

/-! Progress -/
def abv (odd : List Int) (q : Int) : Nat := (odd.takeWhile fun o => decide (q ≤ o)).length
theorem abv_le {odd : List Int} {q : Int} : abv odd q ≤ odd.length := (List.takeWhile_sublist _).length_le
theorem abv_step : ∀ {odd : List Int} {q : Int} {j : Nat}, j ≤ abv odd q → ((j < odd.length ∧ q ≤ odd.getD j 0) ↔ j < abv odd q)
  | [], q, j, h => by
    have : abv [] q = 0 := rfl
    rw [this]; simp
  | o :: odd, q, j, h => by
    have hc : abv (o :: odd) q = if q ≤ o then abv odd q + 1 else 0 := by
      unfold abv
      by_cases e : q ≤ o
      · rw [if_pos e, List.takeWhile_cons, if_pos (decide_eq_true e)]; rfl
      · rw [if_neg e, List.takeWhile_cons, if_neg (by simpa using e)]; rfl
    rw [hc] at h ⊢
    by_cases e : q ≤ o
    · rw [if_pos e] at h ⊢
      cases j with
      | zero => exact ⟨fun _ => Nat.succ_pos _, fun _ => ⟨Nat.succ_pos _, e⟩⟩
      | succ j =>
        have := abv_step (odd := odd) (q := q) (j := j) (by omega)
        show (j + 1 < odd.length + 1 ∧ q ≤ odd.getD j 0) ↔ _
        omega
    · rw [if_neg e] at h ⊢
      obtain rfl : j = 0 := by omega
      show (0 < odd.length + 1 ∧ q ≤ o) ↔ 0 < 0
      omega
def progV (odd many : List Int) (V q : Int) : Int :=
  if V = rpr many then V else if q % 2 = 0 then V / rpr (many.drop (abv odd q)) * rpr (many.drop (abv odd q)) else V / rpr (many.drop (abv odd q)) * rpr (many.drop (abv odd q)) + rpr (many.drop (abv odd q))
theorem ediv_mul_bd {V R t : Int} (hR : 0 < R) (h0 : 0 ≤ V) (h : V < t * R) : 0 ≤ V / R * R ∧ V / R * R ≤ V ∧ V / R * R + R ≤ t * R := by
  have h1 : 0 ≤ V / R := Int.ediv_nonneg h0 (Int.le_of_lt hR)
  have h2 : V / R < t := Int.ediv_lt_of_lt_mul hR h
  have h3 : 0 ≤ V / R * R := Int.mul_nonneg h1 (Int.le_of_lt hR)
  have h4 := Int.mul_ediv_add_emod V R
  have h5 := Int.emod_nonneg V (b := R) (by omega)
  have h6 : (V / R + 1) * R ≤ t * R := Int.mul_le_mul_of_nonneg_right (by omega) (Int.le_of_lt hR)
  rw [Int.add_mul, Int.one_mul] at h6
  rw [Int.mul_comm] at h4
  omega
theorem progV_bd {odd many : List Int} {V q : Int} (hp : posL many) (h0 : 0 ≤ V) (h1 : V ≤ rpr many) : 0 ≤ progV odd many V q ∧ progV odd many V q ≤ rpr many := by
  unfold progV
  by_cases e : V = rpr many
  · rw [if_pos e]; omega
  · rw [if_neg e]
    obtain ⟨t, ht, _⟩ := rpr_dvd (ms := many) (j := abv odd q)
    have hR := rpr_pos (drop_pos (j := abv odd q) hp)
    obtain ⟨a1, a2, a3⟩ := ediv_mul_bd (t := t) hR h0 (by rw [← ht]; omega)
    rw [← ht] at a3
    split <;> omega
theorem progV_mono {odd many : List Int} {V W q : Int} (hp : posL many) (h0 : 0 ≤ V) (h : V ≤ W) (h1 : W ≤ rpr many) : progV odd many V q ≤ progV odd many W q := by
  by_cases e : W = rpr many
  · have := (progV_bd (odd := odd) (q := q) hp h0 (by omega)).2
    have e2 : progV odd many W q = W := by unfold progV; rw [if_pos e]
    rw [e2]; omega
  · have hR := rpr_pos (drop_pos (j := abv odd q) hp)
    unfold progV
    rw [if_neg e, if_neg (by omega)]
    have h3 : V / rpr (many.drop (abv odd q)) ≤ W / rpr (many.drop (abv odd q)) := Int.ediv_le_ediv hR h
    have h4 := Int.mul_le_mul_of_nonneg_right h3 (Int.le_of_lt hR)
    split <;> omega

/-- A measure as the program has it. -/
def deM (many : List Int) (V : Int) : Bool × List Int := if V = rpr many then (true, []) else (false, dgl many V)
theorem deM_top {many : List Int} : deM many (rpr many) = (true, []) := if_pos rfl
theorem deM_low {many l : List Int} (h : wfL many l) : deM many (nvl many l) = (false, l) := by
  have := (nvl_bd h).2
  unfold deM
  rw [if_neg (by omega), dgl_nvl h]
theorem deM_cases {many : List Int} {V : Int} (hp : posL many) (h0 : 0 ≤ V) (h1 : V ≤ rpr many) : (V = rpr many ∧ deM many V = (true, [])) ∨ (V < rpr many ∧ wfL many (dgl many V) ∧ nvl many (dgl many V) = V ∧ deM many V = (false, dgl many V)) := by
  by_cases e : V = rpr many
  · exact .inl ⟨e, by rw [e]; exact deM_top⟩
  · obtain ⟨a1, a2⟩ := dgl_wf hp h0 (by omega)
    exact .inr ⟨by omega, a1, a2, by unfold deM; rw [if_neg e]⟩
theorem deM_inj {many : List Int} {V W : Int} (hp : posL many) (h0 : 0 ≤ V) (h1 : V ≤ rpr many) (h2 : 0 ≤ W) (h3 : W ≤ rpr many) (h : deM many V = deM many W) : V = W := by
  rcases deM_cases hp h0 h1 with ⟨a1, a2⟩ | ⟨a1, a2, a3, a4⟩
  · rcases deM_cases hp h2 h3 with ⟨b1, b2⟩ | ⟨b1, b2, b3, b4⟩
    · omega
    · rw [a2, b4] at h; exact absurd (congrArg Prod.fst h) (by simp)
  · rcases deM_cases hp h2 h3 with ⟨b1, b2⟩ | ⟨b1, b2, b3, b4⟩
    · rw [a4, b2] at h; exact absurd (congrArg Prod.fst h) (by simp)
    · rw [a4, b4] at h
      have := congrArg (fun x : Bool × List Int => nvl many x.2) h
      simp only [a3, b3] at this
      exact this

end Go.Proofs.Ytgminhedbeblpaa.Cal
