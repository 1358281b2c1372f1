/- Own texts of the proof, merged, in order. -/
import Derived.Test.YtgminhedbeblpaaS17
set_option linter.unusedVariables false
set_option linter.unusedSimpArgs false
namespace Go.Proofs.Ytgminhedbeblpaa.Cal
open Go Pl
/-- How many lists of digits there are. -/
def rpr : List Int → Int
  | [] => 1
  | m :: ms => (m + 1) * rpr ms
def wfL : List Int → List Int → Prop
  | [], [] => True
  | m :: ms, d :: ds => (0 ≤ d ∧ d ≤ m) ∧ wfL ms ds
  | _, _ => False
def nvl : List Int → List Int → Int
  | _ :: ms, d :: ds => d * rpr ms + nvl ms ds
  | _, _ => 0
def dgl : List Int → Int → List Int
  | [], _ => []
  | _ :: ms, V => V / rpr ms :: dgl ms (V % rpr ms)
def posL (ms : List Int) : Prop := ∀ m, m ∈ ms → 0 ≤ m
theorem rpr_pos : ∀ {ms : List Int}, posL ms → 0 < rpr ms
  | [], _ => by decide
  | m :: ms, h => by
    have h1 := h m List.mem_cons_self
    have h2 := rpr_pos (ms := ms) fun x hx => h x (List.mem_cons_of_mem _ hx)
    exact Int.mul_pos (by omega) h2
theorem wfL_len : ∀ {ms l : List Int}, wfL ms l → l.length = ms.length
  | [], [], _ => rfl
  | [], _ :: _, h => h.elim
  | _ :: _, [], h => h.elim
  | m :: ms, d :: ds, h => by rw [List.length_cons, List.length_cons, wfL_len h.2]
theorem wfL_pos : ∀ {ms l : List Int}, wfL ms l → posL ms
  | [], _, _ => fun x hx => absurd hx List.not_mem_nil
  | _ :: _, [], h => h.elim
  | m :: ms, d :: ds, h => fun x hx => by
    rcases List.mem_cons.1 hx with rfl | hx
    · have := h.1; omega
    · exact wfL_pos h.2 x hx
theorem nvl_bd : ∀ {ms l : List Int}, wfL ms l → 0 ≤ nvl ms l ∧ nvl ms l < rpr ms
  | [], [], _ => ⟨Int.le_refl _, by decide⟩
  | [], _ :: _, h => h.elim
  | _ :: _, [], h => h.elim
  | m :: ms, d :: ds, h => by
    obtain ⟨h1, h2⟩ := nvl_bd h.2
    have h3 := rpr_pos (wfL_pos h.2)
    have h4 : 0 ≤ d * rpr ms := Int.mul_nonneg h.1.1 (Int.le_of_lt h3)
    have h5 : d * rpr ms ≤ m * rpr ms := Int.mul_le_mul_of_nonneg_right h.1.2 (Int.le_of_lt h3)
    have h6 : (m + 1) * rpr ms = m * rpr ms + rpr ms := by rw [Int.add_mul, Int.one_mul]
    show 0 ≤ d * rpr ms + nvl ms ds ∧ d * rpr ms + nvl ms ds < (m + 1) * rpr ms
    omega
theorem dgl_wf : ∀ {ms : List Int} {V : Int}, posL ms → 0 ≤ V → V < rpr ms → wfL ms (dgl ms V) ∧ nvl ms (dgl ms V) = V
  | [], V, _, h1, h2 => ⟨trivial, by have h2 : V < 1 := h2; show 0 = V; omega⟩
  | m :: ms, V, hp, h1, h2 => by
    have hp2 : posL ms := fun x hx => hp x (List.mem_cons_of_mem _ hx)
    have h3 := rpr_pos hp2
    have h2 : V < (m + 1) * rpr ms := h2
    obtain ⟨i1, i2⟩ := dgl_wf (V := V % rpr ms) hp2 (Int.emod_nonneg _ (by omega)) (Int.emod_lt_of_pos _ h3)
    have h5 : 0 ≤ V / rpr ms := Int.ediv_nonneg h1 (Int.le_of_lt h3)
    have h6 : V / rpr ms < m + 1 := Int.ediv_lt_of_lt_mul h3 h2
    refine ⟨⟨⟨h5, by omega⟩, i1⟩, ?_⟩
    show V / rpr ms * rpr ms + nvl ms (dgl ms (V % rpr ms)) = V
    rw [i2, Int.mul_comm]; exact Int.mul_ediv_add_emod V (rpr ms)
theorem dgl_nvl : ∀ {ms l : List Int}, wfL ms l → dgl ms (nvl ms l) = l
  | [], [], _ => rfl
  | [], _ :: _, h => h.elim
  | _ :: _, [], h => h.elim
  | m :: ms, d :: ds, h => by
    obtain ⟨h1, h2⟩ := nvl_bd h.2
    have h3 := rpr_pos (wfL_pos h.2)
    have h4 : (d * rpr ms + nvl ms ds) / rpr ms = d := by
      rw [Int.add_comm, Int.add_mul_ediv_right _ _ (by omega), Int.ediv_eq_zero_of_lt h1 h2]; omega
    have h5 : (d * rpr ms + nvl ms ds) % rpr ms = nvl ms ds := by
      rw [Int.add_comm, Int.add_mul_emod_self_right, Int.emod_eq_of_lt h1 h2]
    show (d * rpr ms + nvl ms ds) / rpr ms :: dgl ms ((d * rpr ms + nvl ms ds) % rpr ms) = d :: ds
    rw [h4, h5, dgl_nvl h.2]
/-- How two lists compare. -/
def cmpL : List Int → List Int → Int
  | [], [] => 0
  | [], _ :: _ => -1
  | _ :: _, [] => 1
  | a :: l, b :: r => if a < b then -1 else if b < a then 1 else cmpL l r
theorem cmp_nv : ∀ {ms a b : List Int}, wfL ms a → wfL ms b → (cmpL a b < 0 ↔ nvl ms a < nvl ms b) ∧ (0 < cmpL a b ↔ nvl ms b < nvl ms a)
  | [], [], [], _, _ => ⟨by show (0 : Int) < 0 ↔ (0 : Int) < 0; omega, by show (0 : Int) < 0 ↔ (0 : Int) < 0; omega⟩
  | [], _ :: _, _, h, _ => h.elim
  | [], [], _ :: _, _, h => h.elim
  | _ :: _, [], _, h, _ => h.elim
  | _ :: _, _ :: _, [], _, h => h.elim
  | m :: ms, a :: l, b :: r, h1, h2 => by
    obtain ⟨i1, i2⟩ := cmp_nv h1.2 h2.2
    obtain ⟨b1, b2⟩ := nvl_bd h1.2
    obtain ⟨b3, b4⟩ := nvl_bd h2.2
    have h3 := rpr_pos (wfL_pos h1.2)
    show ((if a < b then (-1 : Int) else if b < a then 1 else cmpL l r) < 0 ↔ a * rpr ms + nvl ms l < b * rpr ms + nvl ms r) ∧ (0 < (if a < b then (-1 : Int) else if b < a then 1 else cmpL l r) ↔ b * rpr ms + nvl ms r < a * rpr ms + nvl ms l)
    by_cases e : a < b
    · rw [if_pos e]
      have : (a + 1) * rpr ms ≤ b * rpr ms := Int.mul_le_mul_of_nonneg_right (by omega) (Int.le_of_lt h3)
      rw [Int.add_mul, Int.one_mul] at this
      omega
    · rw [if_neg e]
      by_cases e2 : b < a
      · rw [if_pos e2]
        have : (b + 1) * rpr ms ≤ a * rpr ms := Int.mul_le_mul_of_nonneg_right (by omega) (Int.le_of_lt h3)
        rw [Int.add_mul, Int.one_mul] at this
        omega
      · rw [if_neg e2]
        obtain rfl : a = b := by omega
        omega
/-! Digits changed -/
theorem wfL_get : ∀ {ms l : List Int} {i : Nat}, wfL ms l → i < ms.length → 0 ≤ l.getD i 0 ∧ l.getD i 0 ≤ ms.getD i 0
  | [], _, _, _, h => absurd h (Nat.not_lt_zero _)
  | _ :: _, [], _, h, _ => h.elim
  | m :: ms, d :: ds, 0, h, _ => h.1
  | m :: ms, d :: ds, i + 1, h, hi => wfL_get (i := i) h.2 (by simpa using hi)
theorem wfL_set : ∀ {ms l : List Int} {i : Nat} {x : Int}, wfL ms l → 0 ≤ x → x ≤ ms.getD i 0 → wfL ms (l.set i x)
  | [], [], _, _, _, _, _ => trivial
  | [], _ :: _, _, _, h, _, _ => h.elim
  | _ :: _, [], _, _, h, _, _ => h.elim
  | m :: ms, d :: ds, 0, x, h, h1, h2 => ⟨⟨h1, h2⟩, h.2⟩
  | m :: ms, d :: ds, i + 1, x, h, h1, h2 => ⟨h.1, wfL_set (i := i) h.2 h1 h2⟩
theorem nvl_set : ∀ {ms l : List Int} {i : Nat} {x : Int}, wfL ms l → i < ms.length → nvl ms (l.set i x) = nvl ms l + (x - l.getD i 0) * rpr (ms.drop (i + 1))
  | [], _, _, _, _, h => absurd h (Nat.not_lt_zero _)
  | _ :: _, [], _, _, h, _ => h.elim
  | m :: ms, d :: ds, 0, x, h, _ => by
    show x * rpr ms + nvl ms ds = d * rpr ms + nvl ms ds + (x - d) * rpr ms
    rw [Int.sub_mul]; omega
  | m :: ms, d :: ds, i + 1, x, h, hi => by
    have := nvl_set (i := i) (x := x) h.2 (by simpa using hi)
    show d * rpr ms + nvl ms (ds.set i x) = d * rpr ms + nvl ms ds + (x - ds.getD i 0) * rpr (ms.drop (i + 1))
    rw [this]; omega
theorem rpr_drop : ∀ {ms : List Int} {i : Nat}, i < ms.length → rpr (ms.drop i) = (ms.getD i 0 + 1) * rpr (ms.drop (i + 1))
  | [], _, h => absurd h (Nat.not_lt_zero _)
  | m :: ms, 0, _ => rfl
  | m :: ms, i + 1, h => rpr_drop (ms := ms) (i := i) (by simpa using h)
theorem rpr_dvd : ∀ {ms : List Int} {j : Nat}, ∃ t, rpr ms = t * rpr (ms.drop j) ∧ (posL ms → 0 < t)
  | ms, 0 => ⟨1, by simp, fun _ => by decide⟩
  | [], j + 1 => ⟨1, by simp, fun _ => by decide⟩
  | m :: ms, j + 1 => by
    obtain ⟨t, h1, h2⟩ := rpr_dvd (ms := ms) (j := j)
    refine ⟨(m + 1) * t, ?_, fun hp => Int.mul_pos (by have := hp m List.mem_cons_self; omega) (h2 fun x hx => hp x (List.mem_cons_of_mem _ hx))⟩
    show (m + 1) * rpr ms = _
    rw [h1, Int.mul_assoc]; rfl
theorem drop_pos {ms : List Int} {j : Nat} (h : posL ms) : posL (ms.drop j) := fun x hx => h x (List.mem_of_mem_drop hx)
theorem zero_wf : ∀ {ms : List Int}, posL ms → wfL ms (List.replicate ms.length 0) ∧ nvl ms (List.replicate ms.length 0) = 0
  | [], _ => ⟨trivial, rfl⟩
  | m :: ms, h => by
    obtain ⟨h1, h2⟩ := zero_wf (ms := ms) fun x hx => h x (List.mem_cons_of_mem _ hx)
    refine ⟨⟨⟨Int.le_refl _, h m List.mem_cons_self⟩, h1⟩, ?_⟩
    show 0 * rpr ms + nvl ms (List.replicate ms.length 0) = 0
    rw [h2]; omega
/-- The first j digits. -/
theorem pad_nv : ∀ {ms l : List Int} {j : Nat}, wfL ms l → j ≤ ms.length → wfL ms (l.take j ++ List.replicate (ms.length - j) 0) ∧ nvl ms (l.take j ++ List.replicate (ms.length - j) 0) = nvl ms l / rpr (ms.drop j) * rpr (ms.drop j)
  | ms, l, 0, h, _ => by
    obtain ⟨h1, h2⟩ := zero_wf (wfL_pos h)
    obtain ⟨b1, b2⟩ := nvl_bd h
    refine ⟨by simpa using h1, ?_⟩
    rw [List.drop_zero, Int.ediv_eq_zero_of_lt b1 b2]
    simpa using h2
  | [], _, j + 1, _, h => absurd h (Nat.not_succ_le_zero _)
  | _ :: _, [], _ + 1, h, _ => h.elim
  | m :: ms, d :: ds, j + 1, h, hj => by
    obtain ⟨h1, h2⟩ := pad_nv (j := j) h.2 (by simpa using hj)
    have e : (m :: ms).length - (j + 1) = ms.length - j := by rw [List.length_cons]; omega
    rw [e]
    refine ⟨⟨h.1, h1⟩, ?_⟩
    obtain ⟨t, ht, _⟩ := rpr_dvd (ms := ms) (j := j)
    have hR := rpr_pos (drop_pos (j := j) (wfL_pos h.2))
    show d * rpr ms + nvl ms (ds.take j ++ List.replicate (ms.length - j) 0) = (d * rpr ms + nvl ms ds) / rpr (ms.drop j) * rpr (ms.drop j)
    rw [h2]
    have : (d * rpr ms + nvl ms ds) / rpr (ms.drop j) = d * t + nvl ms ds / rpr (ms.drop j) := by
      have e2 : d * rpr ms + nvl ms ds = nvl ms ds + d * t * rpr (ms.drop j) := by rw [ht, Int.mul_assoc]; omega
      rw [e2, Int.add_mul_ediv_right _ _ (by omega)]; omega
    rw [this, Int.add_mul, ht, Int.mul_assoc]
/-! Progress -/
def abv (odd : List Int) (q : Int) : Nat := (odd.takeWhile fun o => decide (q ≤ o)).length
theorem abv_le {odd : List Int} {q : Int} : abv odd q ≤ odd.length := (List.takeWhile_sublist _).length_le
theorem abv_step : ∀ {odd : List Int} {q : Int} {j : Nat}, j ≤ abv odd q → ((j < odd.length ∧ q ≤ odd.getD j 0) ↔ j < abv odd q)
  | [], q, j, h => by
    have : abv [] q = 0 := rfl
    rw [this]; simp
  | o :: odd, q, j, h => by
    have hc : abv (o :: odd) q = if q ≤ o then abv odd q + 1 else 0 := by
      unfold abv
      by_cases e : q ≤ o
      · rw [if_pos e, List.takeWhile_cons, if_pos (decide_eq_true e)]; rfl
      · rw [if_neg e, List.takeWhile_cons, if_neg (by simpa using e)]; rfl
    rw [hc] at h ⊢
    by_cases e : q ≤ o
    · rw [if_pos e] at h ⊢
      cases j with
      | zero => exact ⟨fun _ => Nat.succ_pos _, fun _ => ⟨Nat.succ_pos _, e⟩⟩
      | succ j =>
        have := abv_step (odd := odd) (q := q) (j := j) (by omega)
        show (j + 1 < odd.length + 1 ∧ q ≤ odd.getD j 0) ↔ _
        omega
    · rw [if_neg e] at h ⊢
      obtain rfl : j = 0 := by omega
      show (0 < odd.length + 1 ∧ q ≤ o) ↔ 0 < 0
      omega
def progV (odd many : List Int) (V q : Int) : Int :=
  if V = rpr many then V else if q % 2 = 0 then V / rpr (many.drop (abv odd q)) * rpr (many.drop (abv odd q)) else V / rpr (many.drop (abv odd q)) * rpr (many.drop (abv odd q)) + rpr (many.drop (abv odd q))
theorem ediv_mul_bd {V R t : Int} (hR : 0 < R) (h0 : 0 ≤ V) (h : V < t * R) : 0 ≤ V / R * R ∧ V / R * R ≤ V ∧ V / R * R + R ≤ t * R := by
  have h1 : 0 ≤ V / R := Int.ediv_nonneg h0 (Int.le_of_lt hR)
  have h2 : V / R < t := Int.ediv_lt_of_lt_mul hR h
  have h3 : 0 ≤ V / R * R := Int.mul_nonneg h1 (Int.le_of_lt hR)
  have h4 := Int.mul_ediv_add_emod V R
  have h5 := Int.emod_nonneg V (b := R) (by omega)
  have h6 : (V / R + 1) * R ≤ t * R := Int.mul_le_mul_of_nonneg_right (by omega) (Int.le_of_lt hR)
  rw [Int.add_mul, Int.one_mul] at h6
  rw [Int.mul_comm] at h4
  omega
theorem progV_bd {odd many : List Int} {V q : Int} (hp : posL many) (h0 : 0 ≤ V) (h1 : V ≤ rpr many) : 0 ≤ progV odd many V q ∧ progV odd many V q ≤ rpr many := by
  unfold progV
  by_cases e : V = rpr many
  · rw [if_pos e]; omega
  · rw [if_neg e]
    obtain ⟨t, ht, _⟩ := rpr_dvd (ms := many) (j := abv odd q)
    have hR := rpr_pos (drop_pos (j := abv odd q) hp)
    obtain ⟨a1, a2, a3⟩ := ediv_mul_bd (t := t) hR h0 (by rw [← ht]; omega)
    rw [← ht] at a3
    split <;> omega
theorem progV_mono {odd many : List Int} {V W q : Int} (hp : posL many) (h0 : 0 ≤ V) (h : V ≤ W) (h1 : W ≤ rpr many) : progV odd many V q ≤ progV odd many W q := by
  by_cases e : W = rpr many
  · have := (progV_bd (odd := odd) (q := q) hp h0 (by omega)).2
    have e2 : progV odd many W q = W := by unfold progV; rw [if_pos e]
    rw [e2]; omega
  · have hR := rpr_pos (drop_pos (j := abv odd q) hp)
    unfold progV
    rw [if_neg e, if_neg (by omega)]
    have h3 : V / rpr (many.drop (abv odd q)) ≤ W / rpr (many.drop (abv odd q)) := Int.ediv_le_ediv hR h
    have h4 := Int.mul_le_mul_of_nonneg_right h3 (Int.le_of_lt hR)
    split <;> omega
/-- A measure as the program has it. -/
def deM (many : List Int) (V : Int) : Bool × List Int := if V = rpr many then (true, []) else (false, dgl many V)
theorem deM_top {many : List Int} : deM many (rpr many) = (true, []) := if_pos rfl
theorem deM_low {many l : List Int} (h : wfL many l) : deM many (nvl many l) = (false, l) := by
  have := (nvl_bd h).2
  unfold deM
  rw [if_neg (by omega), dgl_nvl h]
theorem deM_cases {many : List Int} {V : Int} (hp : posL many) (h0 : 0 ≤ V) (h1 : V ≤ rpr many) : (V = rpr many ∧ deM many V = (true, [])) ∨ (V < rpr many ∧ wfL many (dgl many V) ∧ nvl many (dgl many V) = V ∧ deM many V = (false, dgl many V)) := by
  by_cases e : V = rpr many
  · exact .inl ⟨e, by rw [e]; exact deM_top⟩
  · obtain ⟨a1, a2⟩ := dgl_wf hp h0 (by omega)
    exact .inr ⟨by omega, a1, a2, by unfold deM; rw [if_neg e]⟩
end Go.Proofs.Ytgminhedbeblpaa.Cal
namespace Go.Proofs.Ytgminhedbeblpaa.Cal
open Go Pl
def nanS : Spec
  | [.int .i64 _] => some ⟨True, .bool false, none⟩
  | _ => none
set_option maxRecDepth 4000 in
set_option maxHeartbeats 4000000 in
theorem nan_ok : FSpec Try.prog 61 nanS := by
  refine fspec_of htb (fn := Try.f61) (by kernel_rfl) (by kernel_rfl) rfl (fun args r hS => ?_) (fun args r hS hob hl => ?_)
  · unfold nanS at hS; split at hS <;> first | (cases hS; done) | (cases hS; exact Nat.le_of_ble_eq_true rfl)
  unfold nanS at hS
  split at hS
  case h_2 => cases hS
  rename_i y
  simp only [Option.some.injEq] at hS
  subst hS
  simp only [lenP, mkL, lim] at hl
  dsimp only at hob
  repeat' first
    | with_reducible first | refine awp_seq ?_ | refine awp_block ?_ | refine next_then ?_ | refine next_block ?_ | refine exit_then ?_ | refine ret_then ?_ | refine ret_block ?_ | refine exit_here ?_ | refine awp_exit ?_ | refine awp_ret ?_ | refine awp_skip ?_ | refine awp_label ?_ | refine next_noGoto ?_ | refine ret_noGoto ?_ | refine exit_noGoto ?_ | refine awp_scope ?_
    | ((with_reducible refine exit_past ?_ ?_); exact rfl)
    | ((with_reducible refine isCond ?_); refine awp_condO rfl ?_ ?_ <;> intro hb <;> (try simp only [zH] at hb))
    | ((with_reducible refine isReg ?_); (first | refine awp_textM htb hmz noSp (fun _ => false) rfl rfl ?_ | refine awp_drawM hmo htb hmz noSp (fun _ => false) rfl rfl (by kernel_rfl) ?_); intro m' e' l' ob h; simp only [zE0, zE1, zE2, zE3, zE4, zE5, evp, evx, ev1, evLoad, evStore, evBin, isBoolK, forall_const, z38, tb, Nat.reduceAdd, Nat.reduceSub, Nat.reduceMul, Nat.reduceEqDiff, Nat.reduceLeDiff, Nat.reduceLT, Nat.reduceBEq, Nat.reduceBNe, ↓reduceIte, reduceIte] at h; obtain ⟨rfl, rfl, rfl, rfl⟩ := h; refine ⟨?_, ?_⟩)
    | ((with_reducible refine Ob.mk ?_); first | exact trivial | (intros; omega) | ((repeat' first | apply And.intro | (intro hg; have hg' := hg; try simp only [zH] at hg')) <;> first | assumption | omega | (simp only [zH]; omega)))
  refine fin_ret rfl rfl (spec_flat rfl ?_ rfl)
  rfl
def cmpI (a b : Int) : Int := if a < b then -1 else if b < a then 1 else 0
def cmpS : Spec
  | [.int .i64 a, .int .i64 b] => some ⟨True, .int .i64 (cmpI a b), none⟩
  | _ => none
def spCmp : Nat → Option Spec
  | 61 => some nanS
  | _ => none
theorem spCmp_ok : SpOK Try.prog spCmp := by
  intro f S h
  unfold spCmp at h
  split at h
  · cases h; exact nan_ok
  · cases h
set_option maxRecDepth 4000 in
set_option maxHeartbeats 4000000 in
theorem cmp_ok : FSpec Try.prog 59 cmpS := by
  refine fspec_of htb (fn := Try.f59) (by kernel_rfl) (by kernel_rfl) rfl (fun args r hS => ?_) (fun args r hS hob hl => ?_)
  · unfold cmpS at hS; split at hS <;> first | (cases hS; done) | (cases hS; exact Nat.le_of_ble_eq_true rfl)
  unfold cmpS at hS
  split at hS
  case h_2 => cases hS
  rename_i a b
  simp only [Option.some.injEq] at hS
  subst hS
  simp only [lenP, mkL, lim] at hl
  dsimp only at hob
  repeat' first
    | with_reducible first | refine awp_seq ?_ | refine awp_block ?_ | refine next_then ?_ | refine next_block ?_ | refine exit_then ?_ | refine ret_then ?_ | refine ret_block ?_ | refine exit_here ?_ | refine awp_exit ?_ | refine awp_ret ?_ | refine awp_skip ?_ | refine awp_label ?_ | refine next_noGoto ?_ | refine ret_noGoto ?_ | refine exit_noGoto ?_ | refine awp_scope ?_
    | ((with_reducible refine exit_past ?_ ?_); exact rfl)
    | ((with_reducible refine isCond ?_); refine awp_condO rfl ?_ ?_ <;> intro hb <;> (try simp only [zH] at hb))
    | ((with_reducible refine isReg ?_); (first | refine awp_textM htb hmz spCmp_ok (fun _ => false) rfl rfl ?_ | refine awp_drawM hmo htb hmz spCmp_ok (fun _ => false) rfl rfl (by kernel_rfl) ?_); intro m' e' l' ob h; simp only [zE0, zE1, zE2, zE3, zE4, zE5, evp, evx, ev1, evLoad, evStore, evBin, isBoolK, forall_const, z38, tb, Nat.reduceAdd, Nat.reduceSub, Nat.reduceMul, Nat.reduceEqDiff, Nat.reduceLeDiff, Nat.reduceLT, Nat.reduceBEq, Nat.reduceBNe, ↓reduceIte, reduceIte, spCmp, nanS] at h; obtain ⟨rfl, rfl, rfl, rfl⟩ := h; refine ⟨?_, ?_⟩)
    | ((with_reducible refine Ob.mk ?_); first | exact trivial | (intros; omega) | ((repeat' first | apply And.intro | (intro hg; have hg' := hg; try simp only [zH] at hg')) <;> first | assumption | omega | (simp only [zH]; omega)))
  all_goals try exact absurd ‹false = true› (by decide)
  · refine fin_ret rfl rfl (spec_flat rfl ?_ rfl)
    show AV.int .i64 (-1) = AV.int .i64 (cmpI a b)
    unfold cmpI; rw [if_pos hb]
  · refine fin_ret rfl rfl (spec_flat rfl ?_ rfl)
    show AV.int .i64 1 = AV.int .i64 (cmpI a b)
    unfold cmpI; rw [if_neg (by omega), if_pos hb]
  · refine fin_ret rfl rfl (spec_flat rfl ?_ rfl)
    show AV.int .i64 0 = AV.int .i64 (cmpI a b)
    unfold cmpI; rw [if_neg (by omega), if_neg (by omega)]
def spL1 : Nat → Option Spec
  | 59 => some cmpS
  | _ => none
theorem spL1_ok : SpOK Try.prog spL1 := by
  intro f S h
  unfold spL1 at h
  split at h
  · cases h; exact cmp_ok
  · cases h
set_option maxRecDepth 4000 in
set_option maxHeartbeats 4000000 in
theorem less1_ok : FSpec Try.prog 58 cmpS := by
  refine fspec_of htb (fn := Try.f58) (by kernel_rfl) (by kernel_rfl) rfl (fun args r hS => ?_) (fun args r hS hob hl => ?_)
  · unfold cmpS at hS; split at hS <;> first | (cases hS; done) | (cases hS; exact Nat.le_of_ble_eq_true rfl)
  unfold cmpS at hS
  split at hS
  case h_2 => cases hS
  rename_i a b
  simp only [Option.some.injEq] at hS
  subst hS
  simp only [lenP, mkL, lim] at hl
  dsimp only at hob
  repeat' first
    | with_reducible first | refine awp_seq ?_ | refine awp_block ?_ | refine next_then ?_ | refine next_block ?_ | refine exit_then ?_ | refine ret_then ?_ | refine ret_block ?_ | refine exit_here ?_ | refine awp_exit ?_ | refine awp_ret ?_ | refine awp_skip ?_ | refine awp_label ?_ | refine next_noGoto ?_ | refine ret_noGoto ?_ | refine exit_noGoto ?_ | refine awp_scope ?_
    | ((with_reducible refine exit_past ?_ ?_); exact rfl)
    | ((with_reducible refine isCond ?_); refine awp_condO rfl ?_ ?_ <;> intro hb <;> (try simp only [zH] at hb))
    | ((with_reducible refine isReg ?_); (first | refine awp_textM htb hmz spL1_ok (fun _ => false) rfl rfl ?_ | refine awp_drawM hmo htb hmz spL1_ok (fun _ => false) rfl rfl (by kernel_rfl) ?_); intro m' e' l' ob h; simp only [zE0, zE1, zE2, zE3, zE4, zE5, evp, evx, ev1, evLoad, evStore, evBin, isBoolK, forall_const, z38, tb, Nat.reduceAdd, Nat.reduceSub, Nat.reduceMul, Nat.reduceEqDiff, Nat.reduceLeDiff, Nat.reduceLT, Nat.reduceBEq, Nat.reduceBNe, ↓reduceIte, reduceIte, spL1, cmpS] at h; obtain ⟨rfl, rfl, rfl, rfl⟩ := h; refine ⟨?_, ?_⟩)
    | ((with_reducible refine Ob.mk ?_); first | exact trivial | (intros; omega) | ((repeat' first | apply And.intro | (intro hg; have hg' := hg; try simp only [zH] at hg')) <;> first | assumption | omega | (simp only [zH]; omega)))
  refine fin_ret rfl rfl (spec_flat rfl ?_ rfl)
  rfl
theorem cmpL_step {a b : List Int} {i : Nat} (ha : i < a.length) (hb : i < b.length) : cmpL (a.drop i) (b.drop i) = if a.getD i 0 < b.getD i 0 then -1 else if b.getD i 0 < a.getD i 0 then 1 else cmpL (a.drop (i + 1)) (b.drop (i + 1)) := by
  rw [List.drop_eq_getElem_cons ha, List.drop_eq_getElem_cons hb, List.getD_eq_getElem?_getD, List.getD_eq_getElem?_getD, List.getElem?_eq_getElem ha, List.getElem?_eq_getElem hb]
  rfl
theorem cmpL_end {a b : List Int} {i : Nat} (h : i = min a.length b.length) : cmpL (a.drop i) (b.drop i) = cmpI a.length b.length := by
  unfold cmpI
  by_cases h1 : a.length < b.length
  · have : i = a.length := by omega
    subst this
    rw [List.drop_length, List.drop_eq_getElem_cons h1, if_pos (by omega)]
    rfl
  · by_cases h2 : b.length < a.length
    · have : i = b.length := by omega
      subst this
      rw [List.drop_length, List.drop_eq_getElem_cons h2, if_neg (by omega), if_pos (by omega)]
      rfl
    · have e : a.length = b.length := by omega
      have h3 : i = a.length := by omega
      rw [if_neg (by omega), if_neg (by omega), h3, List.drop_length, e, List.drop_length]
      rfl
def compareS : Spec
  | [.roI a, .roI b, .fn 58 .nil] => some ⟨True, .int .i64 (cmpL a b), none⟩
  | _ => none
def spCo : Nat → Option Spec
  | 59 => some cmpS
  | 58 => some cmpS
  | _ => none
theorem spCo_ok : SpOK Try.prog spCo := by
  intro f S h
  unfold spCo at h
  split at h
  · cases h; exact cmp_ok
  · cases h; exact less1_ok
  · cases h
set_option maxRecDepth 4000 in
set_option maxHeartbeats 4000000 in
theorem compare_ok : FSpec Try.prog 57 compareS := by
  refine fspec_of htb (fn := Try.f57) (by kernel_rfl) (by kernel_rfl) rfl (fun args r hS => ?_) (fun args r hS hob hl => ?_)
  · unfold compareS at hS; split at hS <;> first | (cases hS; done) | (cases hS; exact Nat.le_of_ble_eq_true rfl)
  unfold compareS at hS
  split at hS
  case h_2 => cases hS
  rename_i a b
  simp only [Option.some.injEq] at hS
  subst hS
  simp only [lenP, mkL, lim] at hl
  dsimp only at hob
  repeat' first
    | with_reducible first | refine awp_seq ?_ | refine awp_block ?_ | refine next_then ?_ | refine next_block ?_ | refine exit_then ?_ | refine ret_then ?_ | refine ret_block ?_ | refine exit_here ?_ | refine awp_exit ?_ | refine awp_ret ?_ | refine awp_skip ?_ | refine awp_label ?_ | refine next_noGoto ?_ | refine ret_noGoto ?_ | refine exit_noGoto ?_ | refine awp_scope ?_
    | ((with_reducible refine exit_past ?_ ?_); exact rfl)
    | ((with_reducible refine isCond ?_); refine awp_condO rfl ?_ ?_ <;> intro hb <;> (try simp only [zH] at hb))
    | ((with_reducible refine isReg ?_); (first | refine awp_textM htb hmz spCo_ok (fun _ => false) rfl rfl ?_ | refine awp_drawM hmo htb hmz spCo_ok (fun _ => false) rfl rfl (by kernel_rfl) ?_); intro m' e' l' ob h; simp only [zE0, zE1, zE2, zE3, zE4, zE5, evp, evx, ev1, evLoad, evStore, evBin, isBoolK, forall_const, z38, tb, Nat.reduceAdd, Nat.reduceSub, Nat.reduceMul, Nat.reduceEqDiff, Nat.reduceLeDiff, Nat.reduceLT, Nat.reduceBEq, Nat.reduceBNe, ↓reduceIte, reduceIte, spCo, cmpS] at h; obtain ⟨rfl, rfl, rfl, rfl⟩ := h; refine ⟨?_, ?_⟩)
    | ((with_reducible refine Ob.mk ?_); first | exact trivial | (intros; omega) | ((repeat' first | apply And.intro | (intro hg; have hg' := hg; try simp only [zH] at hg')) <;> first | assumption | omega | (simp only [zH]; omega)))
  refine awp_loopC (τ := Nat) (fun i => i ≤ min a.length b.length ∧ cmpL (a.drop i) (b.drop i) = cmpL a b) (fun i => ⟨6, [(14, .int .i64 i), (13, .int .i64 (min a.length b.length : Nat)), (0, .roI a), (1, .roI b), (2, .fn 58 .nil)], [], []⟩) (fun i => min a.length b.length - i) 0 [] ?_ ⟨Nat.zero_le _, by simp⟩ ?_
  · (refine ⟨rfl, ?_, ?_⟩ <;> simp only [zE0, zE1, zE2, zE3, zE4, zE5, evp, evx, ev1, evLoad, evStore, evBin, isBoolK, forall_const, z38, tb, Nat.reduceAdd, Nat.reduceSub, Nat.reduceMul, Nat.reduceEqDiff, Nat.reduceLeDiff, Nat.reduceLT, Nat.reduceBEq, Nat.reduceBNe, ↓reduceIte, reduceIte, spCo, cmpS, zI])
    omega
  rintro i ⟨hi, hc⟩
  have hst := @cmpL_step a b i
  have hen := @cmpL_end a b i
  rw [hc] at hst hen
  repeat' first
    | with_reducible first | refine awp_seq ?_ | refine awp_block ?_ | refine next_then ?_ | refine next_block ?_ | refine exit_then ?_ | refine ret_then ?_ | refine ret_block ?_ | refine exit_here ?_ | refine awp_exit ?_ | refine awp_ret ?_ | refine awp_skip ?_ | refine awp_label ?_ | refine next_noGoto ?_ | refine ret_noGoto ?_ | refine exit_noGoto ?_ | refine awp_scope ?_
    | ((with_reducible refine exit_past ?_ ?_); exact rfl)
    | ((with_reducible refine isCond ?_); refine awp_condO rfl ?_ ?_ <;> intro hb <;> (try simp only [zH] at hb))
    | ((with_reducible refine isReg ?_); (first | refine awp_textM htb hmz spCo_ok (fun _ => false) rfl rfl ?_ | refine awp_drawM hmo htb hmz spCo_ok (fun _ => false) rfl rfl (by kernel_rfl) ?_); intro m' e' l' ob h; simp only [zE0, zE1, zE2, zE3, zE4, zE5, evp, evx, ev1, evLoad, evStore, evBin, isBoolK, forall_const, z38, tb, Nat.reduceAdd, Nat.reduceSub, Nat.reduceMul, Nat.reduceEqDiff, Nat.reduceLeDiff, Nat.reduceLT, Nat.reduceBEq, Nat.reduceBNe, ↓reduceIte, reduceIte, spCo, cmpS] at h; obtain ⟨rfl, rfl, rfl, rfl⟩ := h; refine ⟨?_, ?_⟩)
    | ((with_reducible refine Ob.mk ?_); first | exact trivial | (intros; omega) | ((repeat' first | apply And.intro | (intro hg; have hg' := hg; try simp only [zH] at hg')) <;> first | assumption | omega | (simp only [zH]; omega)))
  · refine fin_ret rfl rfl (spec_flat rfl ?_ rfl)
    rw [hst (by omega) (by omega)]
    unfold cmpI at hb ⊢
    split
    · rfl
    · rename_i h1
      rw [if_neg h1] at hb
      split
      · rfl
      · rename_i h2
        rw [if_neg h2] at hb
        exact absurd rfl hb
  · refine back (i + 1) [] ?_ ⟨by omega, ?_⟩ (by omega)
    · (refine ⟨rfl, ?_, ?_⟩ <;> simp only [zE0, zE1, zE2, zE3, zE4, zE5, evp, evx, ev1, evLoad, evStore, evBin, isBoolK, forall_const, z38, tb, Nat.reduceAdd, Nat.reduceSub, Nat.reduceMul, Nat.reduceEqDiff, Nat.reduceLeDiff, Nat.reduceLT, Nat.reduceBEq, Nat.reduceBNe, ↓reduceIte, reduceIte, spCo, cmpS, zI])
    · have hst := hst (by omega) (by omega)
      unfold cmpI at hb
      by_cases h1 : a.getD i 0 < b.getD i 0
      · rw [if_pos h1] at hb; cases hb
      · by_cases h2 : b.getD i 0 < a.getD i 0
        · rw [if_neg h1, if_pos h2] at hb; cases hb
        · rw [if_neg h1, if_neg h2] at hst; exact hst.symm
  · refine fin_ret rfl rfl (spec_flat rfl ?_ rfl)
    rw [hen (by omega)]
    rfl
/-- Whether a measure is less. -/
def lessM (a b : Bool × List Int) : Bool := if a.1 || b.1 then !a.1 && b.1 else decide (cmpL a.2 b.2 < 0)
theorem lessM_V {many : List Int} (hp : posL many) {V W : Int} (h0 : 0 ≤ V) (h1 : V ≤ rpr many) (h2 : 0 ≤ W) (h3 : W ≤ rpr many) : lessM (deM many V) (deM many W) = decide (V < W) := by
  unfold lessM
  rcases deM_cases hp h0 h1 with ⟨a1, a2⟩ | ⟨a1, a2, a3, a4⟩
  · rw [a2]
    rcases deM_cases hp h2 h3 with ⟨b1, b2⟩ | ⟨b1, b2, b3, b4⟩
    · rw [b2]; simp; omega
    · rw [b4]; simp; omega
  · rw [a4]
    rcases deM_cases hp h2 h3 with ⟨b1, b2⟩ | ⟨b1, b2, b3, b4⟩
    · rw [b2]; simp; omega
    · rw [b4]
      have := (cmp_nv a2 b2).1
      rw [a3, b3] at this
      simp [this]
def lessS : Spec
  | [.agg (.cons (.bool t) (.cons (.roI xs) .nil)), .agg (.cons (.bool t') (.cons (.roI ys) .nil))] => some ⟨True, .bool (lessM (t, xs) (t', ys)), none⟩
  | _ => none
def spLe : Nat → Option Spec
  | 57 => some compareS
  | _ => none
theorem spLe_ok : SpOK Try.prog spLe := by
  intro f S h
  unfold spLe at h
  split at h
  · cases h; exact compare_ok
  · cases h
set_option maxRecDepth 4000 in
set_option maxHeartbeats 4000000 in
theorem less_ok : FSpec Try.prog 50 lessS := by
  refine fspec_of htb (fn := Try.f50) (by kernel_rfl) (by kernel_rfl) rfl (fun args r hS => ?_) (fun args r hS hob hl => ?_)
  · unfold lessS at hS; split at hS <;> first | (cases hS; done) | (cases hS; exact Nat.le_of_ble_eq_true rfl)
  unfold lessS at hS
  split at hS
  case h_2 => cases hS
  rename_i t xs t' ys
  simp only [Option.some.injEq] at hS
  subst hS
  simp only [lenP, mkL, lim] at hl
  dsimp only at hob
  repeat' first
    | with_reducible first | refine awp_seq ?_ | refine awp_block ?_ | refine next_then ?_ | refine next_block ?_ | refine exit_then ?_ | refine ret_then ?_ | refine ret_block ?_ | refine exit_here ?_ | refine awp_exit ?_ | refine awp_ret ?_ | refine awp_skip ?_ | refine awp_label ?_ | refine next_noGoto ?_ | refine ret_noGoto ?_ | refine exit_noGoto ?_ | refine awp_scope ?_
    | ((with_reducible refine exit_past ?_ ?_); exact rfl)
    | ((with_reducible refine isCond ?_); refine awp_condO rfl ?_ ?_ <;> intro hb <;> (try simp only [zH] at hb))
    | ((with_reducible refine isReg ?_); (first | refine awp_textM htb hmz spLe_ok (fun _ => false) rfl rfl ?_ | refine awp_drawM hmo htb hmz spLe_ok (fun _ => false) rfl rfl (by kernel_rfl) ?_); intro m' e' l' ob h; simp only [zE0, zE1, zE2, zE3, zE4, zE5, evp, evx, ev1, evLoad, evStore, evBin, isBoolK, forall_const, z38, tb, Nat.reduceAdd, Nat.reduceSub, Nat.reduceMul, Nat.reduceEqDiff, Nat.reduceLeDiff, Nat.reduceLT, Nat.reduceBEq, Nat.reduceBNe, ↓reduceIte, reduceIte, spLe, compareS] at h; obtain ⟨rfl, rfl, rfl, rfl⟩ := h; refine ⟨?_, ?_⟩)
    | ((with_reducible refine Ob.mk ?_); first | exact trivial | (intros; omega) | ((repeat' first | apply And.intro | (intro hg; have hg' := hg; try simp only [zH] at hg')) <;> first | assumption | omega | (simp only [zH]; omega)))
  · refine fin_ret rfl rfl (spec_flat rfl ?_ rfl)
    show AV.bool (!t && t') = AV.bool (lessM (t, xs) (t', ys))
    unfold lessM
    rw [if_pos (by simpa using hb)]
  · refine fin_ret rfl rfl (spec_flat rfl ?_ rfl)
    show AV.bool (decide (cmpL xs ys < 0)) = AV.bool (lessM (t, xs) (t', ys))
    unfold lessM
    rw [if_neg (by simpa using hb)]
end Go.Proofs.Ytgminhedbeblpaa.Cal
namespace Go.Proofs.Ytgminhedbeblpaa.Cal
open Go Pl
def aboveS : Spec
  | [.agg (.cons (.roI odd) (.cons (.roI many) .nil)), .int .i64 q] => some ⟨True, .int .i64 (abv odd q), none⟩
  | _ => none
set_option maxRecDepth 4000 in
set_option maxHeartbeats 4000000 in
theorem above_ok : FSpec Try.prog 55 aboveS := by
  refine fspec_of htb (fn := Try.f55) (by kernel_rfl) (by kernel_rfl) rfl (fun args r hS => ?_) (fun args r hS hob hl => ?_)
  · unfold aboveS at hS; split at hS <;> first | (cases hS; done) | (cases hS; exact Nat.le_of_ble_eq_true rfl)
  unfold aboveS at hS
  split at hS
  case h_2 => cases hS
  rename_i odd many q
  simp only [Option.some.injEq] at hS
  subst hS
  simp only [lenP, mkL, lim] at hl
  dsimp only at hob
  repeat' first
    | with_reducible first | refine awp_seq ?_ | refine awp_block ?_ | refine next_then ?_ | refine next_block ?_ | refine exit_then ?_ | refine ret_then ?_ | refine ret_block ?_ | refine exit_here ?_ | refine awp_exit ?_ | refine awp_ret ?_ | refine awp_skip ?_ | refine awp_label ?_ | refine next_noGoto ?_ | refine ret_noGoto ?_ | refine exit_noGoto ?_ | refine awp_scope ?_
    | ((with_reducible refine exit_past ?_ ?_); exact rfl)
    | ((with_reducible refine isCond ?_); refine awp_condO rfl ?_ ?_ <;> intro hb <;> (try simp only [zH] at hb))
    | ((with_reducible refine isReg ?_); (first | refine awp_textM htb hmz noSp (fun _ => false) rfl rfl ?_ | refine awp_drawM hmo htb hmz noSp (fun _ => false) rfl rfl (by kernel_rfl) ?_); intro m' e' l' ob h; simp only [zE0, zE1, zE2, zE3, zE4, zE5, evp, evx, ev1, evLoad, evStore, evBin, isBoolK, forall_const, z38, tb, Nat.reduceAdd, Nat.reduceSub, Nat.reduceMul, Nat.reduceEqDiff, Nat.reduceLeDiff, Nat.reduceLT, Nat.reduceBEq, Nat.reduceBNe, ↓reduceIte, reduceIte] at h; obtain ⟨rfl, rfl, rfl, rfl⟩ := h; refine ⟨?_, ?_⟩)
    | ((with_reducible refine Ob.mk ?_); first | exact trivial | (intros; omega) | ((repeat' first | apply And.intro | (intro hg; have hg' := hg; try simp only [zH] at hg')) <;> first | assumption | omega | (simp only [zH]; omega)))
  refine awp_loopC (τ := Nat) (fun j => j ≤ abv odd q) (fun j => ⟨3, [(5, .int .i64 j), (2, .rop (.agg (.cons (.roI odd) (.cons (.roI many) .nil)))), (1, .int .i64 q)], [], []⟩) (fun j => abv odd q - j) 0 [] ?_ (Nat.zero_le _) ?_
  · (refine ⟨rfl, ?_, ?_⟩ <;> simp only [zE0, zE1, zE2, zE3, zE4, zE5, evp, evx, ev1, evLoad, evStore, evBin, isBoolK, forall_const, z38, tb, Nat.reduceAdd, Nat.reduceSub, Nat.reduceMul, Nat.reduceEqDiff, Nat.reduceLeDiff, Nat.reduceLT, Nat.reduceBEq, Nat.reduceBNe, ↓reduceIte, reduceIte, zI])
  intro j hj
  have hs := abv_step hj
  have hl : abv odd q ≤ odd.length := abv_le
  repeat' first
    | with_reducible first | refine awp_seq ?_ | refine awp_block ?_ | refine next_then ?_ | refine next_block ?_ | refine exit_then ?_ | refine ret_then ?_ | refine ret_block ?_ | refine exit_here ?_ | refine awp_exit ?_ | refine awp_ret ?_ | refine awp_skip ?_ | refine awp_label ?_ | refine next_noGoto ?_ | refine ret_noGoto ?_ | refine exit_noGoto ?_ | refine awp_scope ?_
    | ((with_reducible refine exit_past ?_ ?_); exact rfl)
    | ((with_reducible refine isCond ?_); refine awp_condO rfl ?_ ?_ <;> intro hb <;> (try simp only [zH] at hb))
    | ((with_reducible refine isReg ?_); (first | refine awp_textM htb hmz noSp (fun _ => false) rfl rfl ?_ | refine awp_drawM hmo htb hmz noSp (fun _ => false) rfl rfl (by kernel_rfl) ?_); intro m' e' l' ob h; simp only [zE0, zE1, zE2, zE3, zE4, zE5, evp, evx, ev1, evLoad, evStore, evBin, isBoolK, forall_const, z38, tb, Nat.reduceAdd, Nat.reduceSub, Nat.reduceMul, Nat.reduceEqDiff, Nat.reduceLeDiff, Nat.reduceLT, Nat.reduceBEq, Nat.reduceBNe, ↓reduceIte, reduceIte] at h; obtain ⟨rfl, rfl, rfl, rfl⟩ := h; refine ⟨?_, ?_⟩)
    | ((with_reducible refine Ob.mk ?_); first | exact trivial | (intros; omega) | ((repeat' first | apply And.intro | (intro hg; have hg' := hg; try simp only [zH] at hg')) <;> first | assumption | omega | (simp only [zH]; omega)))
  · have hjl : j < abv odd q := hs.1 ⟨by omega, hb.2⟩
    refine back (j + 1) [] ?_ (by omega) (by omega)
    (refine ⟨rfl, ?_, ?_⟩ <;> simp only [zE0, zE1, zE2, zE3, zE4, zE5, evp, evx, ev1, evLoad, evStore, evBin, isBoolK, forall_const, z38, tb, Nat.reduceAdd, Nat.reduceSub, Nat.reduceMul, Nat.reduceEqDiff, Nat.reduceLeDiff, Nat.reduceLT, Nat.reduceBEq, Nat.reduceBNe, ↓reduceIte, reduceIte, zI])
  · refine fin_ret rfl rfl (spec_flat rfl ?_ rfl)
    have : j = abv odd q := by
      refine Nat.le_antisymm hj (Nat.le_of_not_lt fun h => ?_)
      have := hs.2 h
      rcases hb with h2 | h2
      · omega
      · omega
    rw [this]
    rfl
def enM (many : List Int) (m : Bool × List Int) : Int := bif m.1 then rpr many else nvl many m.2
def okM (many : List Int) (m : Bool × List Int) : Prop := (m.1 = true ∧ m.2 = []) ∨ (m.1 = false ∧ wfL many m.2)
theorem okM_bd {many : List Int} {m : Bool × List Int} (hp : posL many) (h : okM many m) : 0 ≤ enM many m ∧ enM many m ≤ rpr many := by
  have := rpr_pos hp
  rcases h with ⟨h1, h2⟩ | ⟨h1, h2⟩
  · unfold enM; rw [h1]; exact ⟨Int.le_of_lt this, Int.le_refl _⟩
  · have := nvl_bd h2
    unfold enM; rw [h1]
    exact ⟨this.1, Int.le_of_lt this.2⟩
theorem en_de {many : List Int} (hp : posL many) {V : Int} (h0 : 0 ≤ V) (h1 : V ≤ rpr many) : enM many (deM many V) = V ∧ okM many (deM many V) := by
  rcases deM_cases hp h0 h1 with ⟨a1, a2⟩ | ⟨a1, a2, a3, a4⟩
  · rw [a2]; exact ⟨a1.symm, .inl ⟨rfl, rfl⟩⟩
  · rw [a4]; exact ⟨a3, .inr ⟨rfl, a2⟩⟩
def progS : Spec
  | [.agg (.cons (.roI odd) (.cons (.roI many) .nil)), .agg (.cons (.bool t) (.cons (.roI xs) .nil)), .int .i64 q] =>
    some ⟨odd.length = many.length ∧ odd.length ≤ 100 ∧ (∀ i, many.getD i 0 ≤ 1000000000) ∧ posL many ∧ okM many (t, xs) ∧ 0 ≤ q, .agg (.cons (.bool (deM many (progV odd many (enM many (t, xs)) q)).1) (.cons (.roI (deM many (progV odd many (enM many (t, xs)) q)).2) .nil)), none⟩
  | _ => none
def spPr : Nat → Option Spec
  | 55 => some aboveS
  | _ => none
theorem spPr_ok : SpOK Try.prog spPr := by
  intro f S h
  unfold spPr at h
  split at h
  · cases h; exact above_ok
  · cases h
theorem cpL_pad {k j : Nat} {xs : List Int} (hx : xs.length = k) (hj : j ≤ k) : cpL (List.replicate k (0 : Int)) (xs.take j) = xs.take j ++ List.replicate (k - j) 0 := by
  unfold cpL
  have h1 : (xs.take j).length = j := by rw [List.length_take]; omega
  rw [List.length_replicate, h1, List.drop_replicate, List.take_take, Nat.min_eq_right hj]
/-- What the loop of progress keeps: the digits from i on are nought. -/
structure PI (many : List Int) (X : Int) (i : Nat) (out : List Int) : Prop where
  wf : wfL many out
  zr : ∀ t, i ≤ t → out.getD t 0 = 0
  vl : nvl many out + rpr (many.drop i) = X
theorem PI_up {many : List Int} {X : Int} {i : Nat} {out : List Int} (h : PI many X (i + 1) out) (hi : i < many.length) (hlt : out.getD i 0 < many.getD i 0) : wfL many (out.set i (out.getD i 0 + 1)) ∧ nvl many (out.set i (out.getD i 0 + 1)) = X := by
  have hg := wfL_get h.wf hi
  refine ⟨wfL_set h.wf (by omega) (by omega), ?_⟩
  rw [nvl_set h.wf hi, show out.getD i 0 + 1 - out.getD i 0 = 1 by omega, Int.one_mul]
  exact h.vl
theorem PI_down {many : List Int} {X : Int} {i : Nat} {out : List Int} (h : PI many X (i + 1) out) (hi : i < many.length) (hge : ¬ out.getD i 0 < many.getD i 0) : PI many X i (out.set i 0) := by
  have hg := wfL_get h.wf hi
  have hol := wfL_len h.wf
  have hp := wfL_pos h.wf
  refine ⟨wfL_set h.wf (Int.le_refl _) (by omega), fun t ht => ?_, ?_⟩
  · rw [getD_set (by omega)]
    split
    · rfl
    · exact h.zr t (by omega)
  · have hv := h.vl
    have e : out.getD i 0 = many.getD i 0 := by omega
    rw [nvl_set h.wf hi, rpr_drop hi, e, Int.add_mul, Int.sub_mul]
    omega
theorem PI_top {many : List Int} {X : Int} {out : List Int} (h : PI many X 0 out) : X = rpr many := by
  have e : out = List.replicate many.length 0 := by
    refine List.ext_getElem (by rw [wfL_len h.wf]; simp) fun j h1 h2 => ?_
    have := h.zr j (Nat.zero_le _)
    rw [List.getD_eq_getElem?_getD, List.getElem?_eq_getElem h1] at this
    simpa using this
  have := (zero_wf (wfL_pos h.wf)).2
  have hv := h.vl
  rw [e, this, List.drop_zero] at hv
  omega
structure PS where
  i : Nat
  out : List Int
set_option maxRecDepth 4000 in
set_option maxHeartbeats 4000000 in
theorem prog_ok : FSpec Try.prog 43 progS := by
  refine fspec_of htb (fn := Try.f43) (by kernel_rfl) (by kernel_rfl) rfl (fun args r hS => ?_) (fun args r hS hob hl => ?_)
  · unfold progS at hS; split at hS <;> first | (cases hS; done) | (cases hS; exact Nat.le_of_ble_eq_true rfl)
  unfold progS at hS
  split at hS
  case h_2 => cases hS
  rename_i odd many t xs q
  simp only [Option.some.injEq] at hS
  subst hS
  simp only [lenP, mkL, lim] at hl
  dsimp only at hob
  obtain ⟨hl2, hl3, hmb, hp, hok, hq⟩ := hob
  have hj : abv odd q ≤ odd.length := abv_le
  repeat' first
    | with_reducible first | refine awp_seq ?_ | refine awp_block ?_ | refine next_then ?_ | refine next_block ?_ | refine exit_then ?_ | refine ret_then ?_ | refine ret_block ?_ | refine exit_here ?_ | refine awp_exit ?_ | refine awp_ret ?_ | refine awp_skip ?_ | refine awp_label ?_ | refine next_noGoto ?_ | refine ret_noGoto ?_ | refine exit_noGoto ?_ | refine awp_scope ?_
    | ((with_reducible refine exit_past ?_ ?_); exact rfl)
    | ((with_reducible refine isCond ?_); refine awp_condO rfl ?_ ?_ <;> intro hb <;> (try simp only [zH] at hb))
    | ((with_reducible refine isRegS 3 ?_ ?_); (· exact rfl); (with_reducible refine isRegS 3 ?_ ?_); (· exact rfl); (first | refine awp_textM htb hmz spPr_ok (fun _ => false) rfl rfl ?_ | refine awp_drawM hmo htb hmz spPr_ok (fun _ => false) rfl rfl (by kernel_rfl) ?_); intro m' e' l' ob h; simp only [zE0, zE1, zE2, zE3, zE4, zE5, evp, evx, ev1, evLoad, evStore, evBin, isBoolK, forall_const, z38, tb, Nat.reduceAdd, Nat.reduceSub, Nat.reduceMul, Nat.reduceEqDiff, Nat.reduceLeDiff, Nat.reduceLT, Nat.reduceBEq, Nat.reduceBNe, ↓reduceIte, reduceIte, spPr, aboveS] at h; obtain ⟨rfl, rfl, rfl, rfl⟩ := h; refine ⟨?_, ?_⟩)
    | ((with_reducible refine Ob.mk ?_); first | exact trivial | (intros; omega) | ((repeat' first | apply And.intro | (intro hg; have hg' := hg; try simp only [zH] at hg')) <;> first | assumption | omega | (simp only [zH]; omega)))
  · refine fin_ret rfl rfl (spec_imp rfl ?_ rfl)
    obtain ⟨rfl, rfl⟩ : t = true ∧ xs = [] := by
      rcases hok with h | h
      · exact h
      · have h1 : t = false := h.1
        rw [h1] at hb; cases hb
    have : deM many (progV odd many (enM many (true, [])) q) = (true, []) := by
      have e : enM many (true, []) = rpr many := rfl
      unfold progV
      rw [e, if_pos rfl, deM_top]
    rw [this]
    exact imp_agg (imp_cons (imp_eq rfl) (imp_cons imp_nilI (imp_eq rfl)))
  have hwf : wfL many xs := by
    rcases hok with h | h
    · have h1 : t = true := h.1
      rw [h1] at hb; cases hb
    · exact h.2
  subst hb
  have hxl := wfL_len hwf
  have hbd := nvl_bd hwf
  obtain ⟨hw0, hv0⟩ := pad_nv hwf (j := abv odd q) (by omega)
  have hen : enM many (false, xs) = nvl many xs := rfl
  rw [hen]
  have hpv : progV odd many (nvl many xs) q = if q % 2 = 0 then nvl many (xs.take (abv odd q) ++ List.replicate (many.length - abv odd q) 0) else nvl many (xs.take (abv odd q) ++ List.replicate (many.length - abv odd q) 0) + rpr (many.drop (abv odd q)) := by
    rw [hv0]; unfold progV; rw [if_neg (by omega)]
  repeat' first
    | with_reducible first | refine awp_seq ?_ | refine awp_block ?_ | refine next_then ?_ | refine next_block ?_ | refine exit_then ?_ | refine ret_then ?_ | refine ret_block ?_ | refine exit_here ?_ | refine awp_exit ?_ | refine awp_ret ?_ | refine awp_skip ?_ | refine awp_label ?_ | refine next_noGoto ?_ | refine ret_noGoto ?_ | refine exit_noGoto ?_ | refine awp_scope ?_
    | ((with_reducible refine exit_past ?_ ?_); exact rfl)
    | ((with_reducible refine isCond ?_); refine awp_condO rfl ?_ ?_ <;> intro hb <;> (try simp only [zH] at hb))
    | ((with_reducible refine isRegS 6 ?_ ?_); (· exact rfl); (first | refine awp_textM htb hmz spPr_ok (fun _ => false) rfl rfl ?_ | refine awp_drawM hmo htb hmz spPr_ok (fun _ => false) rfl rfl (by kernel_rfl) ?_); intro m' e' l' ob h; simp only [zE0, zE1, zE2, zE3, zE4, zE5, evp, evx, ev1, evLoad, evStore, evBin, isBoolK, forall_const, z38, tb, Nat.reduceAdd, Nat.reduceSub, Nat.reduceMul, Nat.reduceEqDiff, Nat.reduceLeDiff, Nat.reduceLT, Nat.reduceBEq, Nat.reduceBNe, ↓reduceIte, reduceIte, spPr, aboveS] at h; obtain ⟨rfl, rfl, rfl, rfl⟩ := h; refine ⟨?_, ?_⟩)
    | ((with_reducible refine Ob.mk ?_); first | exact trivial | (intros; omega) | ((repeat' first | apply And.intro | (intro hg; have hg' := hg; try simp only [zH] at hg')) <;> first | assumption | omega | (simp only [zH]; omega)))
  rw [hl2, cpL_pad hxl (by omega)]
  generalize hj2 : abv odd q = j at *
  generalize hoo : xs.take j ++ List.replicate (many.length - j) 0 = out at *
  have hol := wfL_len hw0
  repeat' first
    | with_reducible first | refine awp_seq ?_ | refine awp_block ?_ | refine next_then ?_ | refine next_block ?_ | refine exit_then ?_ | refine ret_then ?_ | refine ret_block ?_ | refine exit_here ?_ | refine awp_exit ?_ | refine awp_ret ?_ | refine awp_skip ?_ | refine awp_label ?_ | refine next_noGoto ?_ | refine ret_noGoto ?_ | refine exit_noGoto ?_ | refine awp_scope ?_
    | ((with_reducible refine exit_past ?_ ?_); exact rfl)
    | ((with_reducible refine isCond ?_); refine awp_condO rfl ?_ ?_ <;> intro hb <;> (try simp only [zH] at hb))
    | ((with_reducible refine isRegS 7 ?_ ?_); (· exact rfl); (with_reducible refine isRegS 8 ?_ ?_); (· exact rfl); (first | refine awp_textM htb hmz spPr_ok (fun _ => false) rfl rfl ?_ | refine awp_drawM hmo htb hmz spPr_ok (fun _ => false) rfl rfl (by kernel_rfl) ?_); intro m' e' l' ob h; simp only [zE0, zE1, zE2, zE3, zE4, zE5, evp, evx, ev1, evLoad, evStore, evBin, isBoolK, forall_const, z38, tb, Nat.reduceAdd, Nat.reduceSub, Nat.reduceMul, Nat.reduceEqDiff, Nat.reduceLeDiff, Nat.reduceLT, Nat.reduceBEq, Nat.reduceBNe, ↓reduceIte, reduceIte, spPr, aboveS] at h; obtain ⟨rfl, rfl, rfl, rfl⟩ := h; refine ⟨?_, ?_⟩)
    | ((with_reducible refine Ob.mk ?_); first | exact trivial | (intros; omega) | ((repeat' first | apply And.intro | (intro hg; have hg' := hg; try simp only [zH] at hg')) <;> first | assumption | omega | (simp only [zH]; omega)))
  · refine awp_fzN 12 (.roI out) (by simp only [lkr_cons, lkr_nil, fzE, fzA, fzR, fzB, set1, nbeq, Nat.reduceEqDiff, decide_true, decide_false, ↓reduceIte, reduceIte, cond_true, cond_false, List.take_length, Option.some.injEq]; rfl) (by first | exact rfl | (refine ⟨?_, rfl⟩; first | rfl | (intros; rfl))) (by simp only [lkr_cons, lkr_nil, fzE, fzA, fzR, fzB, set1, nbeq, Nat.reduceEqDiff, decide_true, decide_false, ↓reduceIte, reduceIte, cond_true, cond_false, List.take_length, Option.some.injEq]; rfl) (by simp only [lkr_cons, lkr_nil, fzE, fzA, fzR, fzB, set1, nbeq, Nat.reduceEqDiff, decide_true, decide_false, ↓reduceIte, reduceIte, cond_true, cond_false, List.take_length, Option.some.injEq]; rfl) ?_
    repeat' first
      | with_reducible first | refine awp_seq ?_ | refine awp_block ?_ | refine next_then ?_ | refine next_block ?_ | refine exit_then ?_ | refine ret_then ?_ | refine ret_block ?_ | refine exit_here ?_ | refine awp_exit ?_ | refine awp_ret ?_ | refine awp_skip ?_ | refine awp_label ?_ | refine next_noGoto ?_ | refine ret_noGoto ?_ | refine exit_noGoto ?_ | refine awp_scope ?_
      | ((with_reducible refine exit_past ?_ ?_); exact rfl)
      | ((with_reducible refine isCond ?_); refine awp_condO rfl ?_ ?_ <;> intro hb <;> (try simp only [zH] at hb))
      | ((with_reducible refine isReg ?_); (first | refine awp_textM htb hmz spPr_ok (fun _ => false) rfl rfl ?_ | refine awp_drawM hmo htb hmz spPr_ok (fun _ => false) rfl rfl (by kernel_rfl) ?_); intro m' e' l' ob h; simp only [zE0, zE1, zE2, zE3, zE4, zE5, evp, evx, ev1, evLoad, evStore, evBin, isBoolK, forall_const, z38, tb, Nat.reduceAdd, Nat.reduceSub, Nat.reduceMul, Nat.reduceEqDiff, Nat.reduceLeDiff, Nat.reduceLT, Nat.reduceBEq, Nat.reduceBNe, ↓reduceIte, reduceIte, spPr, aboveS] at h; obtain ⟨rfl, rfl, rfl, rfl⟩ := h; refine ⟨?_, ?_⟩)
      | ((with_reducible refine Ob.mk ?_); first | exact trivial | (intros; omega) | ((repeat' first | apply And.intro | (intro hg; have hg' := hg; try simp only [zH] at hg')) <;> first | assumption | omega | (simp only [zH]; omega)))
    refine fin_ret rfl rfl (spec_flat rfl ?_ rfl)
    rw [hpv, if_pos hb, deM_low hw0]
    rfl
  have hX : PI many (progV odd many (nvl many xs) q) j out := by
    refine ⟨hw0, fun t ht => ?_, by rw [hpv, if_neg hb]⟩
    rw [← hoo, List.getD_eq_getElem?_getD, List.getElem?_append_right (by rw [List.length_take]; omega), List.getElem?_replicate]
    split <;> rfl
  generalize progV odd many (nvl many xs) q = X at *
  repeat' first
    | with_reducible first | refine awp_seq ?_ | refine awp_block ?_ | refine next_then ?_ | refine next_block ?_ | refine exit_then ?_ | refine ret_then ?_ | refine ret_block ?_ | refine exit_here ?_ | refine awp_exit ?_ | refine awp_ret ?_ | refine awp_skip ?_ | refine awp_label ?_ | refine next_noGoto ?_ | refine ret_noGoto ?_ | refine exit_noGoto ?_ | refine awp_scope ?_
    | ((with_reducible refine exit_past ?_ ?_); exact rfl)
    | ((with_reducible refine isCond ?_); refine awp_condO rfl ?_ ?_ <;> intro hb <;> (try simp only [zH] at hb))
    | ((with_reducible refine isRegS 9 ?_ ?_); (· exact rfl); (first | refine awp_textM htb hmz spPr_ok (fun _ => false) rfl rfl ?_ | refine awp_drawM hmo htb hmz spPr_ok (fun _ => false) rfl rfl (by kernel_rfl) ?_); intro m' e' l' ob h; simp only [zE0, zE1, zE2, zE3, zE4, zE5, evp, evx, ev1, evLoad, evStore, evBin, isBoolK, forall_const, z38, tb, Nat.reduceAdd, Nat.reduceSub, Nat.reduceMul, Nat.reduceEqDiff, Nat.reduceLeDiff, Nat.reduceLT, Nat.reduceBEq, Nat.reduceBNe, ↓reduceIte, reduceIte, spPr, aboveS] at h; obtain ⟨rfl, rfl, rfl, rfl⟩ := h; refine ⟨?_, ?_⟩)
    | ((with_reducible refine Ob.mk ?_); first | exact trivial | (intros; omega) | ((repeat' first | apply And.intro | (intro hg; have hg' := hg; try simp only [zH] at hg')) <;> first | assumption | omega | (simp only [zH]; omega)))
  refine awp_loopC (τ := PS) (fun s => s.i ≤ many.length ∧ PI many X s.i s.out) (fun s => ⟨27, [(9, .int .i64 ((s.i : Int) - 1)), (8, .own 12), (6, .own 2), (3, .rop (.agg (.cons (.roI odd) (.cons (.roI many) .nil))))],
    [(2, some (.box (.agg (.cons (.bool false) (.cons (.cst (Value.slice none 0 0)) .nil))))), (12, some (.ints s.out))], []⟩) (fun s => s.i) ⟨j, out⟩ [] ?_ ⟨by dsimp only; omega, hX⟩ ?_
  · (refine ⟨rfl, ?_, ?_⟩ <;> simp only [zE0, zE1, zE2, zE3, zE4, zE5, evp, evx, ev1, evLoad, evStore, evBin, isBoolK, forall_const, z38, tb, Nat.reduceAdd, Nat.reduceSub, Nat.reduceMul, Nat.reduceEqDiff, Nat.reduceLeDiff, Nat.reduceLT, Nat.reduceBEq, Nat.reduceBNe, ↓reduceIte, reduceIte, spPr, aboveS, zI])
  clear hX hpv hv0 hw0 hol hoo
  rintro ⟨i, out⟩ ⟨hi, hP⟩
  dsimp only at hi hP ⊢
  have hol := wfL_len hP.wf
  repeat' first
    | with_reducible first | refine awp_seq ?_ | refine awp_block ?_ | refine next_then ?_ | refine next_block ?_ | refine exit_then ?_ | refine ret_then ?_ | refine ret_block ?_ | refine exit_here ?_ | refine awp_exit ?_ | refine awp_ret ?_ | refine awp_skip ?_ | refine awp_label ?_ | refine next_noGoto ?_ | refine ret_noGoto ?_ | refine exit_noGoto ?_ | refine awp_scope ?_
    | ((with_reducible refine exit_past ?_ ?_); exact rfl)
    | ((with_reducible refine isCond ?_); refine awp_condO rfl ?_ ?_ <;> intro hb <;> (try simp only [zH] at hb))
    | ((with_reducible refine isRegS 11 ?_ ?_); (· exact rfl); (with_reducible refine isRegS 15 ?_ ?_); (· exact rfl); (first | refine awp_textM htb hmz spPr_ok (fun _ => false) rfl rfl ?_ | refine awp_drawM hmo htb hmz spPr_ok (fun _ => false) rfl rfl (by kernel_rfl) ?_); intro m' e' l' ob h; simp only [zE0, zE1, zE2, zE3, zE4, zE5, evp, evx, ev1, evLoad, evStore, evBin, isBoolK, forall_const, z38, tb, Nat.reduceAdd, Nat.reduceSub, Nat.reduceMul, Nat.reduceEqDiff, Nat.reduceLeDiff, Nat.reduceLT, Nat.reduceBEq, Nat.reduceBNe, ↓reduceIte, reduceIte, spPr, aboveS] at h; obtain ⟨rfl, rfl, rfl, rfl⟩ := h; refine ⟨?_, ?_⟩)
    | ((with_reducible refine Ob.mk ?_); first | exact trivial | (intros; omega) | ((repeat' first | apply And.intro | (intro hg; have hg' := hg; try simp only [zH] at hg')) <;> first | assumption | omega | (simp only [zH]; omega)))
  · obtain ⟨i, rfl⟩ : ∃ k, i = k + 1 := ⟨i - 1, by omega⟩
    have e : ((i + 1 : Nat) : Int) - 1 = (i : Int) := by omega
    rw [e]
    repeat' first
      | with_reducible first | refine awp_seq ?_ | refine awp_block ?_ | refine next_then ?_ | refine next_block ?_ | refine exit_then ?_ | refine ret_then ?_ | refine ret_block ?_ | refine exit_here ?_ | refine awp_exit ?_ | refine awp_ret ?_ | refine awp_skip ?_ | refine awp_label ?_ | refine next_noGoto ?_ | refine ret_noGoto ?_ | refine exit_noGoto ?_ | refine awp_scope ?_
      | ((with_reducible refine exit_past ?_ ?_); exact rfl)
      | ((with_reducible refine isCond ?_); refine awp_condO rfl ?_ ?_ <;> intro hb <;> (try simp only [zH] at hb))
      | ((with_reducible refine isRegS 12 ?_ ?_); (· exact rfl); (with_reducible refine isRegS 14 ?_ ?_); (· exact rfl); (first | refine awp_textM htb hmz spPr_ok (fun _ => false) rfl rfl ?_ | refine awp_drawM hmo htb hmz spPr_ok (fun _ => false) rfl rfl (by kernel_rfl) ?_); intro m' e' l' ob h; simp only [zE0, zE1, zE2, zE3, zE4, zE5, evp, evx, ev1, evLoad, evStore, evBin, isBoolK, forall_const, z38, tb, Nat.reduceAdd, Nat.reduceSub, Nat.reduceMul, Nat.reduceEqDiff, Nat.reduceLeDiff, Nat.reduceLT, Nat.reduceBEq, Nat.reduceBNe, ↓reduceIte, reduceIte, spPr, aboveS] at h; obtain ⟨rfl, rfl, rfl, rfl⟩ := h; refine ⟨?_, ?_⟩)
      | ((with_reducible refine Ob.mk ?_); first | exact trivial | (intros; omega) | ((repeat' first | apply And.intro | (intro hg; have hg' := hg; try simp only [zH] at hg')) <;> first | assumption | omega | (simp only [zH]; omega)))
    · obtain ⟨u1, u2⟩ := PI_up hP (by omega) hb
      have hmb := hmb i
      have hg := wfL_get hP.wf (i := i) (by omega)
      repeat' first
        | with_reducible first | refine awp_seq ?_ | refine awp_block ?_ | refine next_then ?_ | refine next_block ?_ | refine exit_then ?_ | refine ret_then ?_ | refine ret_block ?_ | refine exit_here ?_ | refine awp_exit ?_ | refine awp_ret ?_ | refine awp_skip ?_ | refine awp_label ?_ | refine next_noGoto ?_ | refine ret_noGoto ?_ | refine exit_noGoto ?_ | refine awp_scope ?_
        | ((with_reducible refine exit_past ?_ ?_); exact rfl)
        | ((with_reducible refine isCond ?_); refine awp_condO rfl ?_ ?_ <;> intro hb <;> (try simp only [zH] at hb))
        | ((with_reducible refine isRegS 13 ?_ ?_); (· exact rfl); (first | refine awp_textM htb hmz spPr_ok (fun _ => false) rfl rfl ?_ | refine awp_drawM hmo htb hmz spPr_ok (fun _ => false) rfl rfl (by kernel_rfl) ?_); intro m' e' l' ob h; simp only [zE0, zE1, zE2, zE3, zE4, zE5, evp, evx, ev1, evLoad, evStore, evBin, isBoolK, forall_const, z38, tb, Nat.reduceAdd, Nat.reduceSub, Nat.reduceMul, Nat.reduceEqDiff, Nat.reduceLeDiff, Nat.reduceLT, Nat.reduceBEq, Nat.reduceBNe, ↓reduceIte, reduceIte, spPr, aboveS] at h; obtain ⟨rfl, rfl, rfl, rfl⟩ := h; refine ⟨?_, ?_⟩)
        | ((with_reducible refine Ob.mk ?_); first | exact trivial | (intros; omega) | ((repeat' first | apply And.intro | (intro hg; have hg' := hg; try simp only [zH] at hg')) <;> first | assumption | omega | (simp only [zH]; omega)))
      refine awp_fzN 12 (.roI (out.set i (out.getD i 0 + 1))) (by simp only [lkr_cons, lkr_nil, fzE, fzA, fzR, fzB, set1, nbeq, Nat.reduceEqDiff, decide_true, decide_false, ↓reduceIte, reduceIte, cond_true, cond_false, List.take_length, Option.some.injEq]; rfl) (by first | exact rfl | (refine ⟨?_, rfl⟩; first | rfl | (intros; rfl))) (by simp only [lkr_cons, lkr_nil, fzE, fzA, fzR, fzB, set1, nbeq, Nat.reduceEqDiff, decide_true, decide_false, ↓reduceIte, reduceIte, cond_true, cond_false, List.take_length, Option.some.injEq]; rfl) (by simp only [lkr_cons, lkr_nil, fzE, fzA, fzR, fzB, set1, nbeq, Nat.reduceEqDiff, decide_true, decide_false, ↓reduceIte, reduceIte, cond_true, cond_false, List.take_length, Option.some.injEq]; rfl) ?_
      repeat' first
        | with_reducible first | refine awp_seq ?_ | refine awp_block ?_ | refine next_then ?_ | refine next_block ?_ | refine exit_then ?_ | refine ret_then ?_ | refine ret_block ?_ | refine exit_here ?_ | refine awp_exit ?_ | refine awp_ret ?_ | refine awp_skip ?_ | refine awp_label ?_ | refine next_noGoto ?_ | refine ret_noGoto ?_ | refine exit_noGoto ?_ | refine awp_scope ?_
        | ((with_reducible refine exit_past ?_ ?_); exact rfl)
        | ((with_reducible refine isCond ?_); refine awp_condO rfl ?_ ?_ <;> intro hb <;> (try simp only [zH] at hb))
        | ((with_reducible refine isReg ?_); (first | refine awp_textM htb hmz spPr_ok (fun _ => false) rfl rfl ?_ | refine awp_drawM hmo htb hmz spPr_ok (fun _ => false) rfl rfl (by kernel_rfl) ?_); intro m' e' l' ob h; simp only [zE0, zE1, zE2, zE3, zE4, zE5, evp, evx, ev1, evLoad, evStore, evBin, isBoolK, forall_const, z38, tb, Nat.reduceAdd, Nat.reduceSub, Nat.reduceMul, Nat.reduceEqDiff, Nat.reduceLeDiff, Nat.reduceLT, Nat.reduceBEq, Nat.reduceBNe, ↓reduceIte, reduceIte, spPr, aboveS] at h; obtain ⟨rfl, rfl, rfl, rfl⟩ := h; refine ⟨?_, ?_⟩)
        | ((with_reducible refine Ob.mk ?_); first | exact trivial | (intros; omega) | ((repeat' first | apply And.intro | (intro hg; have hg' := hg; try simp only [zH] at hg')) <;> first | assumption | omega | (simp only [zH]; omega)))
      refine fin_ret rfl rfl (spec_flat rfl ?_ rfl)
      rw [← u2, deM_low u1]
      rfl
    · have hD := PI_down hP (by omega) (by omega)
      repeat' first
        | with_reducible first | refine awp_seq ?_ | refine awp_block ?_ | refine next_then ?_ | refine next_block ?_ | refine exit_then ?_ | refine ret_then ?_ | refine ret_block ?_ | refine exit_here ?_ | refine awp_exit ?_ | refine awp_ret ?_ | refine awp_skip ?_ | refine awp_label ?_ | refine next_noGoto ?_ | refine ret_noGoto ?_ | refine exit_noGoto ?_ | refine awp_scope ?_
        | ((with_reducible refine exit_past ?_ ?_); exact rfl)
        | ((with_reducible refine isCond ?_); refine awp_condO rfl ?_ ?_ <;> intro hb <;> (try simp only [zH] at hb))
        | ((with_reducible refine isReg ?_); (first | refine awp_textM htb hmz spPr_ok (fun _ => false) rfl rfl ?_ | refine awp_drawM hmo htb hmz spPr_ok (fun _ => false) rfl rfl (by kernel_rfl) ?_); intro m' e' l' ob h; simp only [zE0, zE1, zE2, zE3, zE4, zE5, evp, evx, ev1, evLoad, evStore, evBin, isBoolK, forall_const, z38, tb, Nat.reduceAdd, Nat.reduceSub, Nat.reduceMul, Nat.reduceEqDiff, Nat.reduceLeDiff, Nat.reduceLT, Nat.reduceBEq, Nat.reduceBNe, ↓reduceIte, reduceIte, spPr, aboveS] at h; obtain ⟨rfl, rfl, rfl, rfl⟩ := h; refine ⟨?_, ?_⟩)
        | ((with_reducible refine Ob.mk ?_); first | exact trivial | (intros; omega) | ((repeat' first | apply And.intro | (intro hg; have hg' := hg; try simp only [zH] at hg')) <;> first | assumption | omega | (simp only [zH]; omega)))
      refine back ⟨i, out.set i 0⟩ [] ?_ ⟨by dsimp only; omega, hD⟩ (by dsimp only; omega)
      (refine ⟨rfl, ?_, ?_⟩ <;> simp only [zE0, zE1, zE2, zE3, zE4, zE5, evp, evx, ev1, evLoad, evStore, evBin, isBoolK, forall_const, z38, tb, Nat.reduceAdd, Nat.reduceSub, Nat.reduceMul, Nat.reduceEqDiff, Nat.reduceLeDiff, Nat.reduceLT, Nat.reduceBEq, Nat.reduceBNe, ↓reduceIte, reduceIte, spPr, aboveS, zI])
  have hi0 : i = 0 := by omega
  subst hi0
  repeat' first
    | with_reducible first | refine awp_seq ?_ | refine awp_block ?_ | refine next_then ?_ | refine next_block ?_ | refine exit_then ?_ | refine ret_then ?_ | refine ret_block ?_ | refine exit_here ?_ | refine awp_exit ?_ | refine awp_ret ?_ | refine awp_skip ?_ | refine awp_label ?_ | refine next_noGoto ?_ | refine ret_noGoto ?_ | refine exit_noGoto ?_ | refine awp_scope ?_
    | ((with_reducible refine exit_past ?_ ?_); exact rfl)
    | ((with_reducible refine isCond ?_); refine awp_condO rfl ?_ ?_ <;> intro hb <;> (try simp only [zH] at hb))
    | ((with_reducible refine isReg ?_); (first | refine awp_textM htb hmz spPr_ok (fun _ => false) rfl rfl ?_ | refine awp_drawM hmo htb hmz spPr_ok (fun _ => false) rfl rfl (by kernel_rfl) ?_); intro m' e' l' ob h; simp only [zE0, zE1, zE2, zE3, zE4, zE5, evp, evx, ev1, evLoad, evStore, evBin, isBoolK, forall_const, z38, tb, Nat.reduceAdd, Nat.reduceSub, Nat.reduceMul, Nat.reduceEqDiff, Nat.reduceLeDiff, Nat.reduceLT, Nat.reduceBEq, Nat.reduceBNe, ↓reduceIte, reduceIte, spPr, aboveS] at h; obtain ⟨rfl, rfl, rfl, rfl⟩ := h; refine ⟨?_, ?_⟩)
    | ((with_reducible refine Ob.mk ?_); first | exact trivial | (intros; omega) | ((repeat' first | apply And.intro | (intro hg; have hg' := hg; try simp only [zH] at hg')) <;> first | assumption | omega | (simp only [zH]; omega)))
  refine fin_ret rfl rfl (spec_imp rfl ?_ rfl)
  rw [PI_top hP, deM_top]
  exact imp_agg (imp_cons (imp_eq rfl) (imp_cons imp_nilI (imp_eq rfl)))
end Go.Proofs.Ytgminhedbeblpaa.Cal
