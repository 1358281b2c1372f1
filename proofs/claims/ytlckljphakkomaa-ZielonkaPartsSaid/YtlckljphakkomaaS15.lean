/- Own texts of the proof, merged, in order. -/
import Derived.Test.YtlckljphakkomaaS14
set_option linter.unusedVariables false
set_option linter.unusedSimpArgs false
namespace Go.Proofs.Ytlckljphakkomaa.Cal
section
open Pl
/-- The steps that end at a priority of at most w's. -/
def Low (E : Nat → Nat → Prop) (pri : Nat → Int) (w a b : Nat) : Prop := E a b ∧ pri b ≤ pri w
/-- A cycle through w on which no priority is greater than w's. -/
def Cyc (E : Nat → Nat → Prop) (pri : Nat → Int) (w : Nat) : Prop := ∃ t, Low E pri w w t ∧ Rch (Low E pri w) t w
theorem Rch.cons {E : Nat → Nat → Prop} {a b c : Nat} (h : E a b) (h2 : Rch E b c) : Rch E a c := Rch.trans (Rch.one h) h2
theorem Rch.uncons {E : Nat → Nat → Prop} {a b : Nat} (h : Rch E a b) : a = b ∨ ∃ t, E a t ∧ Rch E t b := by
  induction h with
  | refl => exact .inl rfl
  | step h e ih =>
    rcases ih with rfl | ⟨t, h1, h2⟩
    · exact .inr ⟨_, e, .refl _⟩
    · exact .inr ⟨t, h1, .step h2 e⟩
/-- The positions of a cycle. -/
def OnC (E : Nat → Nat → Prop) (pri : Nat → Int) (w t z : Nat) : Prop := Rch (Low E pri w) t z ∧ Rch (Low E pri w) z w
theorem on_next {E : Nat → Nat → Prop} {pri : Nat → Int} {w t z : Nat} (ht : Low E pri w w t) (htw : Rch (Low E pri w) t w) (h : OnC E pri w t z) : ∃ s, E z s ∧ OnC E pri w t s := by
  rcases h.2.uncons with rfl | ⟨s, h1, h2⟩
  · exact ⟨t, ht.1, .refl _, htw⟩
  · exact ⟨s, h1.1, .step h.1 h1, h2⟩
theorem on_low {E : Nat → Nat → Prop} {pri : Nat → Int} {w t z : Nat} (ht : Low E pri w w t) (h : OnC E pri w t z) : pri z ≤ pri w := by
  cases h.1 with
  | refl => exact ht.2
  | step _ e => exact e.2
/-- Where every position of the cycle has a step to a lower rank unless it is out of A, none is in A. -/
theorem on_rank {E : Nat → Nat → Prop} {pri : Nat → Int} {w t : Nat} (ht : Low E pri w w t) (htw : Rch (Low E pri w) t w) {A : Nat → Prop} {r : Nat → Nat} (hA : ∀ z s, OnC E pri w t z → A z → E z s → A s ∧ r s < r z) : ∀ z, OnC E pri w t z → ¬ A z := by
  intro z
  generalize hk : r z = k
  induction k using Nat.strongRecOn generalizing z with
  | ind k ih =>
    intro hz ha
    obtain ⟨s, h1, h2⟩ := on_next ht htw hz
    obtain ⟨h3, h4⟩ := hA z s hz ha h1
    exact ih (r s) (by omega) s rfl h2 h3
/-- A cycle whose steps are steps of another graph. -/
theorem cyc_to {E E' : Nat → Nat → Prop} {pri : Nat → Int} {w t : Nat} (ht : Low E pri w w t) (htw : Rch (Low E pri w) t w) (h : ∀ a b, OnC E pri w t a → OnC E pri w t b → E a b → E' a b) : Cyc E' pri w := by
  have hw : OnC E pri w t w := ⟨htw, .refl _⟩
  refine ⟨t, ⟨h w t hw ⟨.refl _, htw⟩ ht.1, ht.2⟩, ?_⟩
  have key : ∀ c, Rch (Low E pri w) t c → Rch (Low E pri w) c w → Rch (Low E' pri w) t c := by
    intro c hc
    induction hc with
    | refl => intro _; exact .refl _
    | step h1 e ih =>
      intro h2
      have h3 := Rch.cons e h2
      exact .step (ih h3) ⟨h _ _ ⟨h1, h3⟩ ⟨.step h1 e, h2⟩ e.1, e.2⟩
  exact key w htw (.refl _)
variable (own pri : Nat → Int) (sx : Nat → List Nat)
/-- The steps in the positions W of K that p plays by c. -/
def Stp (K : Nat → Prop) (W : Nat → Int) (c : Nat → Nat) (p : Int) (v t : Nat) : Prop := (K v ∧ W v = p) ∧ K t ∧ (own v = p → t = c v) ∧ (own v ≠ p → t ∈ sx v)
/-- p wins its positions of K by c. -/
structure Sol (K : Nat → Prop) (W : Nat → Int) (c : Nat → Nat) (p : Int) : Prop where
  mine : ∀ v, K v → W v = p → own v = p → c v ∈ sx v ∧ K (c v) ∧ W (c v) = p
  his : ∀ v, K v → W v = p → own v ≠ p → ∀ t, t ∈ sx v → K t → W t = p
  cyc : ∀ w, K w → W w = p → pri w % 2 ≠ p → ¬ Cyc (Stp own sx K W c p) pri w
/-- Each position of K has a successor there. -/
def Trap (K : Nat → Prop) : Prop := ∀ v, K v → ∃ t, t ∈ sx v ∧ K t
/-- A is T and what q attracts to it in K, by c. -/
structure Atr (K A T : Nat → Prop) (q : Int) (c : Nat → Nat) (r : Nat → Nat) : Prop where
  sub : ∀ v, A v → K v
  base : ∀ v, T v → A v
  mine : ∀ v, A v → ¬ T v → own v = q → c v ∈ sx v ∧ A (c v) ∧ r (c v) < r v
  his : ∀ v, A v → ¬ T v → own v ≠ q → ∀ t, t ∈ sx v → K t → A t ∧ r t < r v
  outm : ∀ v, K v → ¬ A v → own v = q → ∀ t, t ∈ sx v → K t → ¬ A t
  outh : ∀ v, K v → ¬ A v → own v ≠ q → ∃ t, t ∈ sx v ∧ K t ∧ ¬ A t
variable {own pri sx}
variable {K A T R : Nat → Prop} {W W' : Nat → Int} {c c' : Nat → Nat} {r : Nat → Nat} {p q : Int}
theorem Stp.of (h : Sol own pri sx K W c p) {v t : Nat} (e : Stp own sx K W c p v t) : W t = p := by
  obtain ⟨⟨h1, h2⟩, h3, h4, h5⟩ := e
  by_cases ho : own v = p
  · rw [h4 ho]; exact (h.mine v h1 h2 ho).2.2
  · exact h.his v h1 h2 ho t (h5 ho) h3
/-- What is left is a trap for the one who attracts. -/
theorem Atr.trap (h : Atr own sx K A T q c r) (hK : Trap sx K) : Trap sx fun v => K v ∧ ¬ A v := fun v hv => by
  by_cases ho : own v = q
  · obtain ⟨t, h1, h2⟩ := hK v hv.1
    exact ⟨t, h1, h2, h.outm v hv.1 hv.2 ho t h1 h2⟩
  · obtain ⟨t, h1, h2, h3⟩ := h.outh v hv.1 hv.2 ho
    exact ⟨t, h1, h2, h3⟩
/-- Nothing below is lost: p wins everywhere. -/
theorem sol_all {top : Int} (hp : top % 2 = p) (htop : ∀ v, K v → pri v ≤ top) (hT : ∀ v, T v ↔ K v ∧ pri v = top) (hA : Atr own sx K A T p c r)
    (hU : ∀ v, T v → own v = p → c v ∈ sx v ∧ K (c v)) (hS : Sol own pri sx (fun v => K v ∧ ¬ A v) W' c p) (hW' : ∀ v, K v → ¬ A v → W' v = p) (hW : ∀ v, K v → W v = p) :
    Sol own pri sx K W c p ∧ ∀ q, q ≠ p → Sol own pri sx K W c q := by
  refine ⟨⟨fun v hv _ ho => ?_, fun v hv _ ho t ht hk => hW t hk, fun w hw _ hpar => ?_⟩, fun q hq => ⟨fun v hv h => absurd ((hW v hv).symm.trans h).symm hq, fun v hv h => absurd ((hW v hv).symm.trans h).symm hq, fun v hv h => absurd ((hW v hv).symm.trans h).symm hq⟩⟩
  · by_cases hat : A v
    · by_cases htt : T v
      · obtain ⟨h1, h2⟩ := hU v htt ho
        exact ⟨h1, h2, hW _ h2⟩
      · obtain ⟨h1, h2, _⟩ := hA.mine v hat htt ho
        exact ⟨h1, hA.sub _ h2, hW _ (hA.sub _ h2)⟩
    · obtain ⟨h1, h2, h3⟩ := hS.mine v ⟨hv, hat⟩ (hW' v hv hat) ho
      exact ⟨h1, h2.1, hW _ h2.1⟩
  · rintro ⟨t, ht, htw⟩
    have hwt : ¬ T w := fun h => hpar (by rw [((hT w).1 h).2]; exact hp)
    have hlt : pri w < top := by
      have h1 := htop w hw
      rcases Int.lt_or_eq_of_le h1 with h2 | h2
      · exact h2
      · exact absurd ((hT w).2 ⟨hw, h2⟩) hwt
    have hnt : ∀ z, OnC (Stp own sx K W c p) pri w t z → ¬ T z := fun z hz h => by
      have h1 := on_low ht hz
      have h2 := ((hT z).1 h).2
      omega
    have hna := on_rank ht htw (A := A) (r := r) fun z s hz ha e => by
      obtain ⟨⟨e1, e2⟩, e3, e4, e5⟩ := e
      by_cases ho : own z = p
      · rw [e4 ho]; exact (hA.mine z ha (hnt z hz) ho).2
      · exact hA.his z ha (hnt z hz) ho s (e5 ho) e3
    have hKz : ∀ z, OnC (Stp own sx K W c p) pri w t z → K z := fun z hz => by
      obtain ⟨s, h1, _⟩ := on_next ht htw hz
      exact h1.1.1
    have hww : OnC (Stp own sx K W c p) pri w t w := ⟨htw, .refl _⟩
    refine hS.cyc w ⟨hw, hna w hww⟩ (hW' w hw (hna w hww)) hpar (cyc_to ht htw fun a b h1 h2 e => ?_)
    obtain ⟨⟨e1, e2⟩, e3, e4, e5⟩ := e
    exact ⟨⟨⟨e1, hna a h1⟩, hW' a e1 (hna a h1)⟩, ⟨e3, hna b h2⟩, e4, e5⟩
theorem Sol.congr {c c' : Nat → Nat} (h : Sol own pri sx K W c' p) (hc : ∀ v, K v → W v = p → own v = p → c v = c' v) : Sol own pri sx K W c p := by
  refine ⟨fun v h1 h2 h3 => by rw [hc v h1 h2 h3]; exact h.mine v h1 h2 h3, h.his, fun w h1 h2 h3 => ?_⟩
  rintro ⟨t, ht, htw⟩
  refine h.cyc w h1 h2 h3 (cyc_to ht htw fun a b _ _ e => ?_)
  obtain ⟨⟨e1, e2⟩, e3, e4, e5⟩ := e
  exact ⟨⟨e1, e2⟩, e3, fun ho => by rw [e4 ho, hc a e1 e2 ho], e5⟩
variable {B : Nat → Prop} {W2 : Nat → Int} {cA : Nat → Nat} {rA rB : Nat → Nat}
/-- Some are lost below: those and what is attracted to them, and the rest. -/
theorem sol_part (hpq : p ≠ q) (hown : ∀ v, K v → own v = p ∨ own v = q) (hA : Atr own sx K A T p cA rA) (hS : Sol own pri sx (fun v => K v ∧ ¬ A v) W' c q)
    (hB : Atr own sx K B (fun v => (K v ∧ ¬ A v) ∧ W' v = q) q c rB) (h2p : Sol own pri sx (fun v => K v ∧ ¬ B v) W2 c p) (h2q : Sol own pri sx (fun v => K v ∧ ¬ B v) W2 c q)
    (hWB : ∀ v, B v → W v = q) (hW2 : ∀ v, K v → ¬ B v → W v = W2 v) : Sol own pri sx K W c p ∧ Sol own pri sx K W c q := by
  have hnb : ∀ v, K v → W v = p → ¬ B v := fun v hv h hb => hpq (h.symm.trans (hWB v hb))
  refine ⟨⟨fun v hv h ho => ?_, fun v hv h ho t ht hk => ?_, fun w hw h hpar => ?_⟩, ⟨fun v hv h ho => ?_, fun v hv h ho t ht hk => ?_, fun w hw h hpar => ?_⟩⟩
  · have hb := hnb v hv h
    obtain ⟨h1, h2, h3⟩ := h2p.mine v ⟨hv, hb⟩ ((hW2 v hv hb).symm.trans h) ho
    exact ⟨h1, h2.1, (hW2 _ h2.1 h2.2).trans h3⟩
  · have hb := hnb v hv h
    have hoq : own v = q := (hown v hv).resolve_left ho
    have hbt := hB.outm v hv hb hoq t ht hk
    exact (hW2 t hk hbt).trans (h2p.his v ⟨hv, hb⟩ ((hW2 v hv hb).symm.trans h) ho t ht ⟨hk, hbt⟩)
  · rintro ⟨t, ht, htw⟩
    have hb := hnb w hw h
    refine h2p.cyc w ⟨hw, hb⟩ ((hW2 w hw hb).symm.trans h) hpar (cyc_to ht htw fun a b h1 h2 e => ?_)
    obtain ⟨⟨e1, e2⟩, e3, e4, e5⟩ := e
    have hba := hnb a e1 e2
    have hbb : ¬ B b := by
      obtain ⟨s, hs, _⟩ := on_next ht htw h2
      exact hnb b hs.1.1 hs.1.2
    exact ⟨⟨⟨e1, hba⟩, (hW2 a e1 hba).symm.trans e2⟩, ⟨e3, hbb⟩, e4, e5⟩
  · by_cases hb : B v
    · by_cases hl : (K v ∧ ¬ A v) ∧ W' v = q
      · obtain ⟨h1, h2, h3⟩ := hS.mine v hl.1 hl.2 ho
        exact ⟨h1, h2.1, hWB _ (hB.base _ ⟨h2, h3⟩)⟩
      · obtain ⟨h1, h2, _⟩ := hB.mine v hb hl ho
        exact ⟨h1, hB.sub _ h2, hWB _ h2⟩
    · obtain ⟨h1, h2, h3⟩ := h2q.mine v ⟨hv, hb⟩ ((hW2 v hv hb).symm.trans h) ho
      exact ⟨h1, h2.1, (hW2 _ h2.1 h2.2).trans h3⟩
  · have hop : own v = p := (hown v hv).resolve_right ho
    by_cases hb : B v
    · by_cases hl : (K v ∧ ¬ A v) ∧ W' v = q
      · have hat := hA.outm v hv hl.1.2 hop t ht hk
        exact hWB _ (hB.base _ ⟨⟨hk, hat⟩, hS.his v hl.1 hl.2 ho t ht ⟨hk, hat⟩⟩)
      · exact hWB _ (hB.his v hb hl ho t ht hk).1
    · by_cases hbt : B t
      · exact hWB _ hbt
      · exact (hW2 t hk hbt).trans (h2q.his v ⟨hv, hb⟩ ((hW2 v hv hb).symm.trans h) ho t ht ⟨hk, hbt⟩)
  · rintro ⟨t, ht, htw⟩
    have hww : OnC (Stp own sx K W c q) pri w t w := ⟨htw, .refl _⟩
    have hcl : ∀ a b, ((K a ∧ ¬ A a) ∧ W' a = q) → Stp own sx K W c q a b → ((K b ∧ ¬ A b) ∧ W' b = q) := fun a b ha e => by
      obtain ⟨⟨e1, e2⟩, e3, e4, e5⟩ := e
      by_cases ho : own a = q
      · rw [e4 ho]
        obtain ⟨h1, h2, h3⟩ := hS.mine a ha.1 ha.2 ho
        exact ⟨h2, h3⟩
      · have hop : own a = p := (hown a e1).resolve_right ho
        have hat := hA.outm a e1 ha.1.2 hop b (e5 ho) e3
        exact ⟨⟨e3, hat⟩, hS.his a ha.1 ha.2 ho b (e5 ho) ⟨e3, hat⟩⟩
    by_cases hex : ∃ z, OnC (Stp own sx K W c q) pri w t z ∧ ((K z ∧ ¬ A z) ∧ W' z = q)
    · obtain ⟨z, hz, hl⟩ := hex
      have hlw := Rch.closed (C := fun v => (K v ∧ ¬ A v) ∧ W' v = q) (fun a b h1 h2 => hcl a b h1 h2.1) hz.2 hl
      have hla : ∀ a, OnC (Stp own sx K W c q) pri w t a → (K a ∧ ¬ A a) ∧ W' a = q := fun a ha =>
        Rch.closed (C := fun v => (K v ∧ ¬ A v) ∧ W' v = q) (fun a b h1 h2 => hcl a b h1 h2.1) (Rch.cons ht ha.1) hlw
      refine hS.cyc w hlw.1 hlw.2 hpar (cyc_to ht htw fun a b h1 h2 e => ?_)
      obtain ⟨⟨e1, e2⟩, e3, e4, e5⟩ := e
      exact ⟨hla a h1, (hla b h2).1, e4, e5⟩
    · have hno : ∀ z, OnC (Stp own sx K W c q) pri w t z → ¬ ((K z ∧ ¬ A z) ∧ W' z = q) := fun z hz hl => hex ⟨z, hz, hl⟩
      have hnB := on_rank ht htw (A := B) (r := rB) fun z s hz ha e => by
        obtain ⟨⟨e1, e2⟩, e3, e4, e5⟩ := e
        by_cases ho : own z = q
        · rw [e4 ho]; exact (hB.mine z ha (hno z hz) ho).2
        · exact hB.his z ha (hno z hz) ho s (e5 ho) e3
      have hbw := hnB w hww
      refine h2q.cyc w ⟨hw, hbw⟩ ((hW2 w hw hbw).symm.trans h) hpar (cyc_to ht htw fun a b h1 h2 e => ?_)
      obtain ⟨⟨e1, e2⟩, e3, e4, e5⟩ := e
      have hba := hnB a h1
      exact ⟨⟨⟨e1, hba⟩, (hW2 a e1 hba).symm.trans e2⟩, ⟨e3, hnB b h2⟩, e4, e5⟩
/-! ### What is attracted -/
def lay (own : Nat → Int) (sx : Nat → List Nat) (K T : Nat → Prop) (q : Int) : Nat → Nat → Prop
  | 0, v => T v
  | k + 1, v => lay own sx K T q k v ∨ (K v ∧ own v = q ∧ ∃ t, t ∈ sx v ∧ K t ∧ lay own sx K T q k t) ∨ (K v ∧ own v ≠ q ∧ ∀ t, t ∈ sx v → K t → lay own sx K T q k t)
def Att (own : Nat → Int) (sx : Nat → List Nat) (K T : Nat → Prop) (q : Int) (v : Nat) : Prop := ∃ k, lay own sx K T q k v
theorem lay_le {k j v : Nat} (h : lay own sx K T q k v) : lay own sx K T q (k + j) v := by
  induction j with
  | zero => exact h
  | succ j ih => exact .inl ih
theorem lay_all {v : Nat} : ∀ {l : List Nat}, (∀ t, t ∈ l → K t → Att own sx K T q t) → ∃ k, ∀ t, t ∈ l → K t → lay own sx K T q k t
  | [], _ => ⟨0, fun t ht => absurd ht List.not_mem_nil⟩
  | a :: l, h => by
    obtain ⟨k, hk⟩ := lay_all (v := v) (l := l) fun t ht => h t (List.mem_cons_of_mem _ ht)
    by_cases ha : K a
    · obtain ⟨j, hj⟩ := h a List.mem_cons_self ha
      refine ⟨k + j, fun t ht hkt => ?_⟩
      rcases List.mem_cons.1 ht with rfl | ht
      · rw [Nat.add_comm]; exact lay_le hj
      · exact lay_le (hk t ht hkt)
    · refine ⟨k, fun t ht hkt => ?_⟩
      rcases List.mem_cons.1 ht with rfl | ht
      · exact absurd hkt ha
      · exact hk t ht hkt
theorem least_lay {v : Nat} (h : Att own sx K T q v) : ∃ k, lay own sx K T q k v ∧ ∀ j, j < k → ¬ lay own sx K T q j v := by
  obtain ⟨k, hk⟩ := h
  induction k using Nat.strongRecOn with
  | ind k ih =>
    by_cases h : ∃ j, j < k ∧ lay own sx K T q j v
    · obtain ⟨j, h1, h2⟩ := h; exact ih j h1 h2
    · exact ⟨k, hk, fun j hj hl => h ⟨j, hj, hl⟩⟩
open Classical in
noncomputable def layR (own : Nat → Int) (sx : Nat → List Nat) (K T : Nat → Prop) (q : Int) (v : Nat) : Nat := if h : Att own sx K T q v then Classical.choose (least_lay h) else 0
theorem layR_is {v : Nat} (h : Att own sx K T q v) : lay own sx K T q (layR own sx K T q v) v ∧ ∀ j, j < layR own sx K T q v → ¬ lay own sx K T q j v := by
  unfold layR; rw [dif_pos h]; exact Classical.choose_spec (least_lay h)
theorem layR_le {v k : Nat} (h : lay own sx K T q k v) : layR own sx K T q v ≤ k := Nat.not_lt.1 fun hlt => (layR_is ⟨k, h⟩).2 k hlt h
theorem lay_sub (hT : ∀ v, T v → K v) {k v : Nat} (h : lay own sx K T q k v) : K v := by
  induction k with
  | zero => exact hT v h
  | succ k ih => rcases h with h | h | h <;> first | exact ih h | exact h.1
/-- The attractor, with a choice. -/
theorem att_atr (hT : ∀ v, T v → K v) : ∃ c r, Atr own sx K (Att own sx K T q) T q c r := by
  have hst : ∀ v, Att own sx K T q v → ¬ T v → ∃ k, layR own sx K T q v = k + 1 ∧ ((K v ∧ own v = q ∧ ∃ t, t ∈ sx v ∧ K t ∧ lay own sx K T q k t) ∨ (K v ∧ own v ≠ q ∧ ∀ t, t ∈ sx v → K t → lay own sx K T q k t)) := fun v hv ht => by
    obtain ⟨h1, h2⟩ := layR_is hv
    cases hk : layR own sx K T q v with
    | zero => rw [hk] at h1; exact absurd h1 ht
    | succ k =>
      rw [hk] at h1 h2
      exact ⟨k, rfl, h1.resolve_left (h2 k (by omega))⟩
  have hc : ∀ v, ∃ t, Att own sx K T q v → ¬ T v → own v = q → t ∈ sx v ∧ Att own sx K T q t ∧ layR own sx K T q t < layR own sx K T q v := fun v => by
    by_cases h : Att own sx K T q v ∧ ¬ T v ∧ own v = q
    · obtain ⟨k, hk, h2⟩ := hst v h.1 h.2.1
      rcases h2 with ⟨_, _, t, h3, _, h4⟩ | h2
      · refine ⟨t, fun _ _ _ => ⟨h3, ⟨k, h4⟩, ?_⟩⟩
        have := layR_le h4; omega
      · exact absurd h.2.2 h2.2.1
    · exact ⟨0, fun h1 h2 h3 => absurd ⟨h1, h2, h3⟩ h⟩
  refine ⟨fun v => Classical.choose (hc v), layR own sx K T q, fun v ⟨k, h⟩ => lay_sub hT h, fun v h => ⟨0, h⟩, fun v h1 h2 h3 => Classical.choose_spec (hc v) h1 h2 h3, fun v h1 h2 h3 t ht hk => ?_, fun v hv hna ho t ht hk hat => ?_, fun v hv hna ho => ?_⟩
  · obtain ⟨k, hk', h4⟩ := hst v h1 h2
    rcases h4 with h4 | h4
    · exact absurd h4.2.1 h3
    · have h5 := h4.2.2 t ht hk
      have := layR_le h5
      exact ⟨⟨k, h5⟩, by omega⟩
  · obtain ⟨k, h⟩ := hat
    exact hna ⟨k + 1, .inr (.inl ⟨hv, ho, t, ht, hk, h⟩)⟩
  · refine Classical.byContradiction fun hno => ?_
    obtain ⟨k, hk⟩ := lay_all (own := own) (sx := sx) (K := K) (T := T) (q := q) (v := v) (l := sx v) fun t ht hkt => Classical.byContradiction fun h => hno ⟨t, ht, hkt, h⟩
    exact hna ⟨k + 1, .inr (.inr ⟨hv, ho, hk⟩)⟩
/-! ### The recursion -/
def topR (pri : Nat → Int) (K : Nat → Bool) : Nat → Int
  | 0 => -1
  | i + 1 => if K i = true then max (topR pri K i) (pri i) else topR pri K i
theorem topR_ge {pri : Nat → Int} {K : Nat → Bool} {v : Nat} (hv : K v = true) : ∀ {n : Nat}, v < n → pri v ≤ topR pri K n
  | 0, h => absurd h (Nat.not_lt_zero _)
  | n + 1, h => by
    unfold topR
    by_cases e : v = n
    · subst e; rw [if_pos hv]; omega
    · have := topR_ge (pri := pri) hv (n := n) (by omega)
      split <;> omega
theorem topR_mem {pri : Nat → Int} {K : Nat → Bool} : ∀ {n : Nat}, topR pri K n = -1 ∨ ∃ v, v < n ∧ K v = true ∧ pri v = topR pri K n
  | 0 => .inl rfl
  | n + 1 => by
    unfold topR
    split
    · rename_i h
      by_cases h2 : topR pri K n ≤ pri n
      · exact .inr ⟨n, by omega, h, by omega⟩
      · rcases topR_mem (pri := pri) (K := K) (n := n) with e | ⟨v, h3, h4, h5⟩
        · exact .inl (by omega)
        · exact .inr ⟨v, by omega, h4, by omega⟩
    · rcases topR_mem (pri := pri) (K := K) (n := n) with e | ⟨v, h3, h4, h5⟩
      · exact .inl e
      · exact .inr ⟨v, by omega, h4, h5⟩
open Classical in
/-- What is attracted, to be computed. -/
noncomputable def attB (own : Nat → Int) (sx : Nat → List Nat) (K T : Nat → Bool) (q : Int) (v : Nat) : Bool := decide (Att own sx (fun v => K v = true) (fun v => T v = true) q v)
theorem attB_iff {K T : Nat → Bool} {v : Nat} : attB own sx K T q v = true ↔ Att own sx (fun v => K v = true) (fun v => T v = true) q v := by simp [attB]
/-- Those of the greatest priority. -/
def topS (pri : Nat → Int) (K : Nat → Bool) (n v : Nat) : Bool := K v && decide (pri v = topR pri K n)
/-- What is not near those. -/
noncomputable def restS (own pri : Nat → Int) (sx : Nat → List Nat) (n : Nat) (K : Nat → Bool) (v : Nat) : Bool := K v && !attB own sx K (topS pri K n) (topR pri K n % 2) v
/-- The winners in K. -/
noncomputable def winZ (own pri : Nat → Int) (sx : Nat → List Nat) (n : Nat) : Nat → (Nat → Bool) → Nat → Int
  | 0, _, _ => 0
  | k + 1, K, v =>
    if topR pri K n < 0 then 0
    else if ∀ u, u < n → restS own pri sx n K u = true → winZ own pri sx n k (restS own pri sx n K) u = topR pri K n % 2 then topR pri K n % 2
    else if attB own sx K (fun u => restS own pri sx n K u && decide (winZ own pri sx n k (restS own pri sx n K) u ≠ topR pri K n % 2)) (1 - topR pri K n % 2) v = true then 1 - topR pri K n % 2
    else winZ own pri sx n k (fun u => K u && !attB own sx K (fun u => restS own pri sx n K u && decide (winZ own pri sx n k (restS own pri sx n K) u ≠ topR pri K n % 2)) (1 - topR pri K n % 2) u) v
def cntZ (n : Nat) (K : Nat → Bool) : Nat := (List.range n).countP K
theorem cnt_lt {n : Nat} {K K' : Nat → Bool} {v : Nat} (h : ∀ u, K' u = true → K u = true) (hv : v < n) (h1 : K v = true) (h2 : K' v = false) : cntZ n K' < cntZ n K := by
  unfold cntZ
  have hm : v ∈ List.range n := List.mem_range.2 hv
  generalize List.range n = l at hm
  induction l with
  | nil => exact absurd hm List.not_mem_nil
  | cons a l ih =>
    have hle : l.countP K' ≤ l.countP K := List.countP_mono_left fun x _ hx => h x hx
    rw [List.countP_cons, List.countP_cons]
    rcases List.mem_cons.1 hm with rfl | hm
    · rw [h1, h2]; simp; omega
    · have := ih hm
      have h3 : K' a = true → K a = true := h a
      cases e : K' a with
      | true => rw [h3 e]; simp; omega
      | false => cases K a <;> simp <;> omega
theorem cnt_pos {n : Nat} {K : Nat → Bool} {v : Nat} (hv : v < n) (h1 : K v = true) : 0 < cntZ n K := List.countP_pos_iff.2 ⟨v, List.mem_range.2 hv, h1⟩
theorem Atr.congr (h : Atr own sx K A T q c' r) (hc : ∀ v, A v → ¬ T v → own v = q → c v = c' v) : Atr own sx K A T q c r :=
  ⟨h.sub, h.base, fun v h1 h2 h3 => by rw [hc v h1 h2 h3]; exact h.mine v h1 h2 h3, h.his, h.outm, h.outh⟩
theorem Atr.congrT {T' : Nat → Prop} (h : Atr own sx K A T q c r) (hT : ∀ v, T v ↔ T' v) : Atr own sx K A T' q c r :=
  ⟨h.sub, fun v h1 => h.base v ((hT v).2 h1), fun v h1 h2 => h.mine v h1 fun h3 => h2 ((hT v).1 h3), fun v h1 h2 => h.his v h1 fun h3 => h2 ((hT v).1 h3), h.outm, h.outh⟩
theorem Sol.none (h : ∀ v, ¬ K v) : Sol own pri sx K W c p := ⟨fun v hv => absurd hv (h v), fun v hv => absurd hv (h v), fun v hv => absurd hv (h v)⟩
theorem Sol.congrW (h : Sol own pri sx K W' c p) (hW : ∀ v, K v → W v = W' v) : Sol own pri sx K W c p := by
  refine ⟨fun v h1 h2 h3 => ?_, fun v h1 h2 h3 t ht hk => ?_, fun w h1 h2 h3 => ?_⟩
  · obtain ⟨a, b, d⟩ := h.mine v h1 ((hW v h1).symm.trans h2) h3
    exact ⟨a, b, (hW _ b).trans d⟩
  · exact (hW t hk).trans (h.his v h1 ((hW v h1).symm.trans h2) h3 t ht hk)
  · rintro ⟨t, ht, htw⟩
    refine h.cyc w h1 ((hW w h1).symm.trans h2) h3 (cyc_to ht htw fun a b _ _ e => ?_)
    obtain ⟨⟨e1, e2⟩, e3, e4, e5⟩ := e
    exact ⟨⟨e1, (hW a e1).symm.trans e2⟩, e3, e4, e5⟩
theorem mod2 (x : Int) : x % 2 = 0 ∨ x % 2 = 1 := by omega
open Classical in
theorem zsol {n : Nat} (hown : ∀ v, v < n → own v = 0 ∨ own v = 1) (hpri : ∀ v, v < n → 0 ≤ pri v) : ∀ (k : Nat) (K : Nat → Bool), (∀ v, K v = true → v < n) → cntZ n K ≤ k → Trap sx (fun v => K v = true) →
    (∀ v, K v = true → winZ own pri sx n k K v = 0 ∨ winZ own pri sx n k K v = 1) ∧ ∃ c, Sol own pri sx (fun v => K v = true) (winZ own pri sx n k K) c 0 ∧ Sol own pri sx (fun v => K v = true) (winZ own pri sx n k K) c 1 := by
  intro k
  induction k with
  | zero =>
    intro K hn hc _
    have hno : ∀ v, ¬ K v = true := fun v hv => by have := cnt_pos (hn v hv) hv; omega
    exact ⟨fun v hv => absurd hv (hno v), fun _ => 0, Sol.none hno, Sol.none hno⟩
  | succ k ih =>
    intro K hn hc hK
    by_cases ht : topR pri K n < 0
    · have hno : ∀ v, ¬ K v = true := fun v hv => by
        have h1 := topR_ge (pri := pri) hv (hn v hv)
        have h2 := hpri v (hn v hv)
        omega
      exact ⟨fun v hv => absurd hv (hno v), fun _ => 0, Sol.none hno, Sol.none hno⟩
    obtain ⟨v0, hv0, hk0, hp0⟩ : ∃ v, v < n ∧ K v = true ∧ pri v = topR pri K n := topR_mem.resolve_left (by omega)
    have hunf : winZ own pri sx n (k + 1) K = fun v => if ∀ u, u < n → restS own pri sx n K u = true → winZ own pri sx n k (restS own pri sx n K) u = topR pri K n % 2 then topR pri K n % 2
        else if attB own sx K (fun u => restS own pri sx n K u && decide (winZ own pri sx n k (restS own pri sx n K) u ≠ topR pri K n % 2)) (1 - topR pri K n % 2) v = true then 1 - topR pri K n % 2
        else winZ own pri sx n k (fun u => K u && !attB own sx K (fun u => restS own pri sx n K u && decide (winZ own pri sx n k (restS own pri sx n K) u ≠ topR pri K n % 2)) (1 - topR pri K n % 2) u) v := by
      funext v
      rw [winZ, if_neg ht]
    rw [hunf]
    clear hunf
    have hTi : ∀ v, topS pri K n v = true ↔ K v = true ∧ pri v = topR pri K n := fun v => by simp [topS]
    have htop : ∀ v, K v = true → pri v ≤ topR pri K n := fun v hv => topR_ge hv (hn v hv)
    obtain ⟨cA, rA, hA⟩ := att_atr (own := own) (sx := sx) (K := fun v => K v = true) (T := fun v => topS pri K n v = true) (q := topR pri K n % 2) fun v hv => ((hTi v).1 hv).1
    have hRi : ∀ v, restS own pri sx n K v = true ↔ K v = true ∧ ¬ Att own sx (fun v => K v = true) (fun v => topS pri K n v = true) (topR pri K n % 2) v := fun v => by
      unfold restS
      rw [Bool.and_eq_true, Bool.not_eq_true', ← attB_iff, Bool.not_eq_true]
    have hRf : (fun v => restS own pri sx n K v = true) = fun v => K v = true ∧ ¬ Att own sx (fun v => K v = true) (fun v => topS pri K n v = true) (topR pri K n % 2) v := funext fun v => propext (hRi v)
    have hRc : cntZ n (restS own pri sx n K) ≤ k := by
      have := cnt_lt (n := n) (K := K) (K' := restS own pri sx n K) (v := v0) (fun u hu => ((hRi u).1 hu).1) hv0 hk0 (by
        rw [Bool.eq_false_iff]
        exact fun h => ((hRi v0).1 h).2 (hA.base v0 ((hTi v0).2 ⟨hk0, hp0⟩)))
      omega
    obtain ⟨hw', c', hS0, hS1⟩ := ih (restS own pri sx n K) (fun v hv => hn v ((hRi v).1 hv).1) hRc (by rw [hRf]; exact hA.trap hK)
    rw [hRf] at hS0 hS1
    have hSp : ∀ q, q = 0 ∨ q = 1 → Sol own pri sx (fun v => K v = true ∧ ¬ Att own sx (fun v => K v = true) (fun v => topS pri K n v = true) (topR pri K n % 2) v) (winZ own pri sx n k (restS own pri sx n K)) c' q := fun q hq => by rcases hq with rfl | rfl <;> assumption
    clear hS0 hS1
    have hpm := mod2 (topR pri K n)
    generalize hp : topR pri K n % 2 = p at *
    by_cases hall : ∀ u, u < n → restS own pri sx n K u = true → winZ own pri sx n k (restS own pri sx n K) u = p
    · simp only [if_pos hall]
      have hss : ∀ v, ∃ t, K v = true → t ∈ sx v ∧ K t = true := fun v => by
        by_cases h : K v = true
        · obtain ⟨t, h1, h2⟩ := hK v h; exact ⟨t, fun _ => ⟨h1, h2⟩⟩
        · exact ⟨0, fun h' => absurd h' h⟩
      refine ⟨fun _ _ => hpm, fun v => if Att own sx (fun v => K v = true) (fun v => topS pri K n v = true) p v then (if topS pri K n v = true then Classical.choose (hss v) else cA v) else c' v, ?_⟩
      have key := sol_all (own := own) (pri := pri) (sx := sx) (K := fun v => K v = true) (W := fun _ => p) hp htop hTi (hA.congr (c := fun v => if Att own sx (fun v => K v = true) (fun v => topS pri K n v = true) p v then (if topS pri K n v = true then Classical.choose (hss v) else cA v) else c' v) fun v h1 h2 _ => by rw [if_pos h1, if_neg h2])
        (fun v hv _ => by
          rw [if_pos (hA.base v hv), if_pos hv]
          exact Classical.choose_spec (hss v) ((hTi v).1 hv).1)
        ((hSp p hpm).congr fun v hv _ _ => by rw [if_neg hv.2]) (fun v h1 h2 => hall v (hn v h1) ((hRi v).2 ⟨h1, h2⟩)) fun _ _ => rfl
      rcases hpm with e | e
      · subst e; exact ⟨key.1, key.2 1 (by decide)⟩
      · subst e; exact ⟨key.2 0 (by decide), key.1⟩
    · simp only [if_neg hall]
      generalize hL : (fun u => restS own pri sx n K u && decide (winZ own pri sx n k (restS own pri sx n K) u ≠ p)) = L at *
      have hLi : ∀ v, L v = true ↔ (K v = true ∧ ¬ Att own sx (fun v => K v = true) (fun v => topS pri K n v = true) p v) ∧ winZ own pri sx n k (restS own pri sx n K) v = 1 - p := fun v => by
        rw [← hL]
        simp only [Bool.and_eq_true, hRi, decide_eq_true_eq]
        refine and_congr_right fun h => ?_
        have := hw' v ((hRi v).2 h)
        omega
      have hLf : (fun v => L v = true) = fun v => (K v = true ∧ ¬ Att own sx (fun v => K v = true) (fun v => topS pri K n v = true) p v) ∧ winZ own pri sx n k (restS own pri sx n K) v = 1 - p := funext fun v => propext (hLi v)
      obtain ⟨cB, rB, hB⟩ := att_atr (own := own) (sx := sx) (K := fun v => K v = true) (T := fun v => L v = true) (q := 1 - p) fun v hv => ((hLi v).1 hv).1.1
      obtain ⟨u0, hu0, hr0, hn0⟩ : ∃ u, u < n ∧ restS own pri sx n K u = true ∧ winZ own pri sx n k (restS own pri sx n K) u ≠ p := Classical.byContradiction fun h => hall fun u h1 h2 => Classical.byContradiction fun h3 => h ⟨u, h1, h2, h3⟩
      have hl0 : L u0 = true := by rw [← hL]; simp [hr0, hn0]
      have h2i : ∀ v, (K v && !attB own sx K L (1 - p) v) = true ↔ K v = true ∧ ¬ Att own sx (fun v => K v = true) (fun v => L v = true) (1 - p) v := fun v => by
        rw [Bool.and_eq_true, Bool.not_eq_true', ← attB_iff, Bool.not_eq_true]
      have h2f : (fun v => (K v && !attB own sx K L (1 - p) v) = true) = fun v => K v = true ∧ ¬ Att own sx (fun v => K v = true) (fun v => L v = true) (1 - p) v := funext fun v => propext (h2i v)
      have h2c : cntZ n (fun v => K v && !attB own sx K L (1 - p) v) ≤ k := by
        have := cnt_lt (n := n) (K := K) (K' := fun v => K v && !attB own sx K L (1 - p) v) (v := u0) (fun u hu => ((h2i u).1 hu).1) hu0 ((hLi u0).1 hl0).1.1 (by
          rw [Bool.eq_false_iff]
          exact fun h => ((h2i u0).1 h).2 (hB.base u0 hl0))
        omega
      obtain ⟨hw2, c2, h20, h21⟩ := ih (fun v => K v && !attB own sx K L (1 - p) v) (fun v hv => hn v ((h2i v).1 hv).1) h2c (by rw [h2f]; exact hB.trap hK)
      rw [h2f] at h20 h21
      have h2p : ∀ q, q = 0 ∨ q = 1 → Sol own pri sx (fun v => K v = true ∧ ¬ Att own sx (fun v => K v = true) (fun v => L v = true) (1 - p) v) (winZ own pri sx n k (fun v => K v && !attB own sx K L (1 - p) v)) c2 q := fun q hq => by rcases hq with rfl | rfl <;> assumption
      have hq1 : 1 - p = 0 ∨ 1 - p = 1 := by omega
      refine ⟨fun v hv => ?_, fun v => if L v = true then c' v else if Att own sx (fun v => K v = true) (fun v => L v = true) (1 - p) v then cB v else c2 v, ?_⟩
      · split
        · exact hq1
        · rename_i h
          exact hw2 v ((h2i v).2 ⟨hv, fun h' => h (attB_iff.2 h')⟩)
      have hnl : ∀ v, ¬ Att own sx (fun v => K v = true) (fun v => L v = true) (1 - p) v → ¬ L v = true := fun v h h' => h (hB.base v h')
      have hB2 := hB.congr (c := fun v => if L v = true then c' v else if Att own sx (fun v => K v = true) (fun v => L v = true) (1 - p) v then cB v else c2 v) fun v h1 h2 _ => by rw [if_neg h2, if_pos h1]
      have hS2 := (hSp (1 - p) hq1).congr (c := fun v => if L v = true then c' v else if Att own sx (fun v => K v = true) (fun v => L v = true) (1 - p) v then cB v else c2 v) fun v h1 h2 _ => by rw [if_pos ((hLi v).2 ⟨h1, h2⟩)]
      have h3 : ∀ q : Int, q = 0 ∨ q = 1 → Sol own pri sx (fun v => K v = true ∧ ¬ Att own sx (fun v => K v = true) (fun v => L v = true) (1 - p) v) (winZ own pri sx n k (fun v => K v && !attB own sx K L (1 - p) v)) (fun v => if L v = true then c' v else if Att own sx (fun v => K v = true) (fun v => L v = true) (1 - p) v then cB v else c2 v) q := fun q hq => (h2p q hq).congr fun v h1 _ _ => by rw [if_neg (hnl v h1.2), if_neg h1.2]
      have key := sol_part (own := own) (pri := pri) (sx := sx) (p := p) (q := 1 - p) (W := fun v => if attB own sx K L (1 - p) v = true then 1 - p else winZ own pri sx n k (fun u => K u && !attB own sx K L (1 - p) u) v) (by omega)
        (fun v hv => by have := hown v (hn v hv); omega) hA hS2 (hB2.congrT hLi) (h3 p hpm) (h3 (1 - p) hq1)
        (fun v hv => if_pos (attB_iff.2 hv)) (fun v hv hb => if_neg fun h => hb (attB_iff.1 h))
      rcases hpm with e | e
      · subst e; exact ⟨key.1, key.2⟩
      · subst e; exact ⟨key.2, key.1⟩
/-! ### There is one solution -/
theorem max_at {f : Nat → Int} : ∀ {L k : Nat}, k < L → ∃ m, k ≤ m ∧ m < L ∧ ∀ j, k ≤ j → j < L → f j ≤ f m
  | 0, k, h => absurd h (Nat.not_lt_zero _)
  | L + 1, k, h => by
    by_cases e : k = L
    · subst e
      exact ⟨k, Nat.le_refl _, by omega, fun j h1 h2 => by rw [show j = k by omega]; exact Int.le_refl _⟩
    · obtain ⟨m, h1, h2, h3⟩ := max_at (f := f) (L := L) (k := k) (by omega)
      by_cases h4 : f m ≤ f L
      · refine ⟨L, by omega, by omega, fun j h5 h6 => ?_⟩
        by_cases h7 : j = L
        · rw [h7]; exact Int.le_refl _
        · have := h3 j h5 (by omega); omega
      · refine ⟨m, h1, by omega, fun j h5 h6 => ?_⟩
        by_cases h7 : j = L
        · rw [h7]; omega
        · exact h3 j h5 (by omega)
/-- A map that stays in D has a cycle there: one of its steps in any graph that has these steps. -/
theorem cyc_of {F : Nat → Nat} {D : Nat → Prop} {n s : Nat} (hD : ∀ v, D v → v < n ∧ D (F v)) (hs : D s) : ∃ w, D w ∧ ∀ E : Nat → Nat → Prop, (∀ v, D v → E v (F v)) → Cyc E pri w := by
  have hor : ∀ j, D (orb F s j) := fun j => by
    induction j with
    | zero => exact hs
    | succ j ih => exact (hD _ ih).2
  obtain ⟨L, k, ⟨_, hkL, he⟩, _⟩ := again_ex (f := F) (s := s) (n := n) fun j => (hD _ (hor j)).1
  obtain ⟨m, h1, h2, h3⟩ := max_at (f := fun j => pri (orb F s j)) hkL
  refine ⟨orb F s m, hor m, fun E hE => ?_⟩
  have hle : ∀ j, k ≤ j → j ≤ L → pri (orb F s j) ≤ pri (orb F s m) := fun j h4 h5 => by
    by_cases h6 : j = L
    · rw [h6, he]; exact h3 k (Nat.le_refl _) hkL
    · exact h3 j h4 (by omega)
  have hst : ∀ a b, k ≤ a → a ≤ b → b ≤ L → Rch (Low E pri (orb F s m)) (orb F s a) (orb F s b) := fun a b ha hab hb => by
    induction b with
    | zero => rw [show a = 0 by omega]; exact .refl _
    | succ b ih =>
      by_cases h : a = b + 1
      · rw [h]; exact .refl _
      · exact .step (ih (by omega) (by omega)) ⟨hE _ (hor b), hle (b + 1) (by omega) hb⟩
  refine ⟨orb F s (m + 1), ⟨hE _ (hor m), hle (m + 1) (by omega) (by omega)⟩, ?_⟩
  have h4 := hst (m + 1) L (by omega) (by omega) (Nat.le_refl _)
  rw [he] at h4
  exact h4.trans (hst k m (Nat.le_refl _) h1 (by omega))
theorem sol_apart {n : Nat} {V : Nat → Int} {d : Nat → Nat} (hn : ∀ v, K v → v < n) (h0 : Sol own pri sx K W c 0) (h1 : Sol own pri sx K V d 1) (hown : ∀ v, K v → own v = 0 ∨ own v = 1) {v : Nat} (hv : K v) (hw : W v = 0) : V v ≠ 1 := fun hv1 => by
  obtain ⟨w, ⟨a1, a2, a3⟩, hc⟩ := cyc_of (pri := pri) (F := fun v => if own v = 0 then c v else d v) (D := fun v => K v ∧ W v = 0 ∧ V v = 1) (n := n) (s := v) (fun u hu => ⟨hn u hu.1, by
    by_cases ho : own u = 0
    · rw [if_pos ho]
      obtain ⟨b1, b2, b3⟩ := h0.mine u hu.1 hu.2.1 ho
      exact ⟨b2, b3, h1.his u hu.1 hu.2.2 (by omega) _ b1 b2⟩
    · rw [if_neg ho]
      obtain ⟨b1, b2, b3⟩ := h1.mine u hu.1 hu.2.2 ((hown u hu.1).resolve_left ho)
      exact ⟨b2, h0.his u hu.1 hu.2.1 ho _ b1 b2, b3⟩⟩) ⟨hv, hw, hv1⟩
  by_cases hp : pri w % 2 = 0
  · refine h1.cyc w a1 a3 (by omega) (hc _ fun u hu => ⟨⟨hu.1, hu.2.2⟩, ?_, fun ho => ?_, fun ho => ?_⟩)
    · by_cases ho : own u = 0
      · rw [if_pos ho]; exact (h0.mine u hu.1 hu.2.1 ho).2.1
      · rw [if_neg ho]; exact (h1.mine u hu.1 hu.2.2 ((hown u hu.1).resolve_left ho)).2.1
    · rw [if_neg (by omega)]
    · have ho : own u = 0 := (hown u hu.1).resolve_right ho
      rw [if_pos ho]; exact (h0.mine u hu.1 hu.2.1 ho).1
  · refine h0.cyc w a1 a2 hp (hc _ fun u hu => ⟨⟨hu.1, hu.2.1⟩, ?_, fun ho => ?_, fun ho => ?_⟩)
    · by_cases ho : own u = 0
      · rw [if_pos ho]; exact (h0.mine u hu.1 hu.2.1 ho).2.1
      · rw [if_neg ho]; exact (h1.mine u hu.1 hu.2.2 ((hown u hu.1).resolve_left ho)).2.1
    · rw [if_pos ho]
    · rw [if_neg ho]; exact (h1.mine u hu.1 hu.2.2 ((hown u hu.1).resolve_left ho)).1
end
end Go.Proofs.Ytlckljphakkomaa.Cal
namespace Go.Proofs.Ytlckljphakkomaa.Cal
open Go Pl
noncomputable def winG (g : Gm) (k : Nat) (K : Nat → Bool) : Nat → Int := winZ (fun v => g.own.getD v 0) (fun v => g.pri.getD v 0) (rws g.nxt) g.own.length k K
noncomputable def winL (g : Gm) (k : Nat) (K : Nat → Bool) : List Int := (List.range g.own.length).map (winG g k K)
theorem winL_getD {g : Gm} {k : Nat} {K : Nat → Bool} {v : Nat} (hv : v < g.own.length) : (winL g k K).getD v 0 = winG g k K v := by
  simp [winL, List.getD_eq_getElem?_getD, hv]
end Go.Proofs.Ytlckljphakkomaa.Cal
namespace Go.Proofs.Ytlckljphakkomaa.Cal
open Go Pl
noncomputable def aloneoS : Spec
  | [.agg (.cons (.roI o) (.cons (.roI p) (.cons (.roII x) .nil))), .int .i64 q] => some ⟨validB ⟨o, p, x⟩ = true, .own 0, some (.bools (aloneL ⟨o, p, x⟩ q))⟩
  | _ => none
noncomputable def spAlo : Nat → Option Spec
  | 39 => some reachS
  | _ => none
theorem spAlo_ok : SpOK Try.prog spAlo := by
  intro f S h
  unfold spAlo at h
  split at h
  · cases h; exact reaches_ok
  · cases h
set_option maxRecDepth 4000 in
set_option maxHeartbeats 4000000 in
theorem aloneo_ok : FSpec Try.prog 29 aloneoS := by
  refine fspec_of htb (fn := Try.f29) (by kernel_rfl) (by kernel_rfl) rfl (fun args r hS => ?_) (fun args r hS hob hl => ?_)
  · unfold aloneoS at hS; split at hS <;> first | (cases hS; done) | (cases hS; exact Nat.le_of_ble_eq_true rfl)
  unfold aloneoS at hS
  split at hS
  case h_2 => cases hS
  rename_i o p x pl
  simp only [Option.some.injEq] at hS
  subst hS
  simp only [lenP, mkL, lim] at hl
  dsimp only at hob
  have hv := hob
  have hV := validB_iff.1 hv
  obtain ⟨hn, hpl, hxl, hpos⟩ := id hV
  simp only [Gm.n] at hn hpl hxl
  have hrb : ∀ v, v < o.length → ∀ j, j < (x.getD v []).length → 0 ≤ (x.getD v []).getD j 0 ∧ (x.getD v []).getD j 0 < o.length := fun v h j hj => by
    obtain ⟨_, hr⟩ := hpos v (by simp only [Gm.n]; omega)
    exact ⟨(hr j hj).1, (hr j hj).2.1⟩
  have hpr : ∀ v, v < o.length → 0 ≤ p.getD v 0 ∧ p.getD v 0 ≤ 60 := fun v h => by
    obtain ⟨⟨a1, a2, a3, a4, _, a6⟩, _⟩ := hpos v (by simp only [Gm.n]; omega)
    exact ⟨a3, a4⟩
  have hrow : ∀ v, v < o.length → ∀ t, t ∈ rws x v → t < o.length := fun v hv t ht => by
    obtain ⟨j, hj, rfl⟩ := List.getElem_of_mem ht
    rw [rws_len] at hj
    have := hrb v hv j hj
    have e : (rws x v)[j] = (rws x v).getD j 0 := by rw [List.getD_eq_getElem?_getD, List.getElem?_eq_getElem (by rw [rws_len]; exact hj)]; rfl
    rw [e, rws_getD]; omega
  have hRl : ∀ s top, (reachL ⟨o, p, x⟩ s top).length = o.length := fun s top => reachL_len
  have hz : ∀ f : Nat → Bool, List.replicate o.length false = mix f (fun _ => false) o.length 0 := fun f => List.ext_getElem (by simp [mix]) fun j h1 h2 => by simp [mix]
  repeat' first
    | with_reducible first | refine awp_seq ?_ | refine awp_block ?_ | refine next_then ?_ | refine next_block ?_ | refine exit_then ?_ | refine ret_then ?_ | refine ret_block ?_ | refine exit_here ?_ | refine awp_exit ?_ | refine awp_ret ?_ | refine awp_skip ?_ | refine awp_label ?_ | refine next_noGoto ?_ | refine ret_noGoto ?_ | refine exit_noGoto ?_ | refine awp_scope ?_
    | ((with_reducible refine exit_past ?_ ?_); exact rfl)
    | ((with_reducible refine isCond ?_); refine awp_condO rfl ?_ ?_ <;> intro hb <;> (try simp only [zH] at hb))
    | ((with_reducible refine isReg ?_); (first | refine awp_textM htb hmz spAlo_ok (fun _ => false) rfl rfl ?_ | refine awp_drawM hmo htb hmz spAlo_ok (fun _ => false) rfl rfl (by kernel_rfl) ?_); intro m' e' l' ob h; simp only [zE0, zE1, zE2, zE3, zE4, zE5, evp, evx, ev1, evLoad, evStore, evBin, isBoolK, forall_const, z38, tb, Nat.reduceAdd, Nat.reduceSub, Nat.reduceMul, Nat.reduceEqDiff, Nat.reduceLeDiff, Nat.reduceLT, Nat.reduceBEq, Nat.reduceBNe, ↓reduceIte, reduceIte, spAlo, reachS] at h; obtain ⟨rfl, rfl, rfl, rfl⟩ := h; refine ⟨?_, ?_⟩)
    | ((with_reducible refine Ob.mk ?_); first | exact trivial | (intros; omega) | ((repeat' first | apply And.intro | (intro hg; have hg' := hg; try simp only [zH] at hg')) <;> first | assumption | omega | (simp only [zH]; omega)))
  refine awp_loopC (τ := Nat) (fun i => i ≤ o.length) (fun i => ⟨10, [(17, .int .i64 i), (16, .int .i64 o.length), (5, .own 5), (2, .rop (.agg (.cons (.roI o) (.cons (.roI p) (.cons (.roII x) .nil))))), (1, .int .i64 pl)],
    [(5, some (.bools (mix (rgood ⟨o, p, x⟩ pl) (fun _ => false) o.length i)))], []⟩) (fun i => o.length - i) 0 [] ?_ (Nat.zero_le _) ?_
  · (refine ⟨rfl, ?_, ?_⟩ <;> simp only [zE0, zE1, zE2, zE3, zE4, zE5, evp, evx, ev1, evLoad, evStore, evBin, isBoolK, forall_const, z38, tb, Nat.reduceAdd, Nat.reduceSub, Nat.reduceMul, Nat.reduceEqDiff, Nat.reduceLeDiff, Nat.reduceLT, Nat.reduceBEq, Nat.reduceBNe, ↓reduceIte, reduceIte, spAlo, reachS, zI])
    · rw [List.length_replicate]
    · exact hz _
  intro i hi
  have hm1 : (mix (rgood ⟨o, p, x⟩ pl) (fun _ => false) o.length i).length = o.length := mix_len
  have hRl1 := hRl i (p.getD i 0)
  have hpr1 := hpr i
  repeat' first
    | with_reducible first | refine awp_seq ?_ | refine awp_block ?_ | refine next_then ?_ | refine next_block ?_ | refine exit_then ?_ | refine ret_then ?_ | refine ret_block ?_ | refine exit_here ?_ | refine awp_exit ?_ | refine awp_ret ?_ | refine awp_skip ?_ | refine awp_label ?_ | refine next_noGoto ?_ | refine ret_noGoto ?_ | refine exit_noGoto ?_ | refine awp_scope ?_
    | ((with_reducible refine exit_past ?_ ?_); exact rfl)
    | ((with_reducible refine isCond ?_); refine awp_condO rfl ?_ ?_ <;> intro hb <;> (try simp only [zH] at hb))
    | ((with_reducible refine isRegS 5 ?_ ?_); (· exact rfl); (with_reducible refine isRegS 7 ?_ ?_); (· exact rfl); (first | refine awp_textM htb hmz spAlo_ok (fun _ => false) rfl rfl ?_ | refine awp_drawM hmo htb hmz spAlo_ok (fun _ => false) rfl rfl (by kernel_rfl) ?_); intro m' e' l' ob h; simp only [zE0, zE1, zE2, zE3, zE4, zE5, evp, evx, ev1, evLoad, evStore, evBin, isBoolK, forall_const, z38, tb, Nat.reduceAdd, Nat.reduceSub, Nat.reduceMul, Nat.reduceEqDiff, Nat.reduceLeDiff, Nat.reduceLT, Nat.reduceBEq, Nat.reduceBNe, ↓reduceIte, reduceIte, spAlo, reachS] at h; obtain ⟨rfl, rfl, rfl, rfl⟩ := h; refine ⟨?_, ?_⟩)
    | ((with_reducible refine Ob.mk ?_); first | exact trivial | (intros; omega) | ((repeat' first | apply And.intro | (intro hg; have hg' := hg; try simp only [zH] at hg')) <;> first | assumption | omega | (simp only [zH]; omega)))
  · repeat' first
      | with_reducible first | refine awp_seq ?_ | refine awp_block ?_ | refine next_then ?_ | refine next_block ?_ | refine exit_then ?_ | refine ret_then ?_ | refine ret_block ?_ | refine exit_here ?_ | refine awp_exit ?_ | refine awp_ret ?_ | refine awp_skip ?_ | refine awp_label ?_ | refine next_noGoto ?_ | refine ret_noGoto ?_ | refine exit_noGoto ?_ | refine awp_scope ?_
      | ((with_reducible refine exit_past ?_ ?_); exact rfl)
      | ((with_reducible refine isCond ?_); refine awp_condO rfl ?_ ?_ <;> intro hb <;> (try simp only [zH] at hb))
      | ((with_reducible refine isReg ?_); (first | refine awp_textM htb hmz spAlo_ok (fun _ => false) rfl rfl ?_ | refine awp_drawM hmo htb hmz spAlo_ok (fun _ => false) rfl rfl (by kernel_rfl) ?_); intro m' e' l' ob h; simp only [zE0, zE1, zE2, zE3, zE4, zE5, evp, evx, ev1, evLoad, evStore, evBin, isBoolK, forall_const, z38, tb, Nat.reduceAdd, Nat.reduceSub, Nat.reduceMul, Nat.reduceEqDiff, Nat.reduceLeDiff, Nat.reduceLT, Nat.reduceBEq, Nat.reduceBNe, ↓reduceIte, reduceIte, spAlo, reachS] at h; obtain ⟨rfl, rfl, rfl, rfl⟩ := h; refine ⟨?_, ?_⟩)
      | ((with_reducible refine Ob.mk ?_); first | exact trivial | (intros; omega) | ((repeat' first | apply And.intro | (intro hg; have hg' := hg; try simp only [zH] at hg')) <;> first | assumption | omega | (simp only [zH]; omega)))
    refine back (i + 1) [] ?_ (by omega) (by omega)
    (refine ⟨rfl, ?_, ?_⟩ <;> simp only [zE0, zE1, zE2, zE3, zE4, zE5, evp, evx, ev1, evLoad, evStore, evBin, isBoolK, forall_const, z38, tb, Nat.reduceAdd, Nat.reduceSub, Nat.reduceMul, Nat.reduceEqDiff, Nat.reduceLeDiff, Nat.reduceLT, Nat.reduceBEq, Nat.reduceBNe, ↓reduceIte, reduceIte, spAlo, reachS, zI])
    exact mix_set
  have hie : i = o.length := by omega
  subst hie
  rw [mix_all]
  have hgg : ∀ w, w < o.length → ((List.range o.length).map (rgood ⟨o, p, x⟩ pl)).getD w false = rgood ⟨o, p, x⟩ pl w := fun w hw => by simp [List.getD_eq_getElem?_getD, hw]
  have hgl : ((List.range o.length).map (rgood ⟨o, p, x⟩ pl)).length = o.length := by simp
  generalize (List.range o.length).map (rgood ⟨o, p, x⟩ pl) = good at *
  clear hpr1
  repeat' first
    | with_reducible first | refine awp_seq ?_ | refine awp_block ?_ | refine next_then ?_ | refine next_block ?_ | refine exit_then ?_ | refine ret_then ?_ | refine ret_block ?_ | refine exit_here ?_ | refine awp_exit ?_ | refine awp_ret ?_ | refine awp_skip ?_ | refine awp_label ?_ | refine next_noGoto ?_ | refine ret_noGoto ?_ | refine exit_noGoto ?_ | refine awp_scope ?_
    | ((with_reducible refine exit_past ?_ ?_); exact rfl)
    | ((with_reducible refine isCond ?_); refine awp_condO rfl ?_ ?_ <;> intro hb <;> (try simp only [zH] at hb))
    | ((with_reducible refine isReg ?_); (first | refine awp_textM htb hmz spAlo_ok (fun _ => false) rfl rfl ?_ | refine awp_drawM hmo htb hmz spAlo_ok (fun _ => false) rfl rfl (by kernel_rfl) ?_); intro m' e' l' ob h; simp only [zE0, zE1, zE2, zE3, zE4, zE5, evp, evx, ev1, evLoad, evStore, evBin, isBoolK, forall_const, z38, tb, Nat.reduceAdd, Nat.reduceSub, Nat.reduceMul, Nat.reduceEqDiff, Nat.reduceLeDiff, Nat.reduceLT, Nat.reduceBEq, Nat.reduceBNe, ↓reduceIte, reduceIte, spAlo, reachS] at h; obtain ⟨rfl, rfl, rfl, rfl⟩ := h; refine ⟨?_, ?_⟩)
    | ((with_reducible refine Ob.mk ?_); first | exact trivial | (intros; omega) | ((repeat' first | apply And.intro | (intro hg; have hg' := hg; try simp only [zH] at hg')) <;> first | assumption | omega | (simp only [zH]; omega)))
  refine awp_loopC (τ := Nat) (fun i => i ≤ o.length) (fun i => ⟨19, [(51, .int .i64 i), (50, .int .i64 o.length), (7, .own 14), (5, .own 5), (2, .rop (.agg (.cons (.roI o) (.cons (.roI p) (.cons (.roII x) .nil))))), (1, .int .i64 pl)],
    [(5, some (.bools good)), (14, some (.bools (mix (fun v => rsome ⟨o, p, x⟩ pl v o.length) (fun _ => false) o.length i)))], []⟩) (fun i => o.length - i) 0 [] ?_ (Nat.zero_le _) ?_
  · (refine ⟨rfl, ?_, ?_⟩ <;> simp only [zE0, zE1, zE2, zE3, zE4, zE5, evp, evx, ev1, evLoad, evStore, evBin, isBoolK, forall_const, z38, tb, Nat.reduceAdd, Nat.reduceSub, Nat.reduceMul, Nat.reduceEqDiff, Nat.reduceLeDiff, Nat.reduceLT, Nat.reduceBEq, Nat.reduceBNe, ↓reduceIte, reduceIte, spAlo, reachS, zI])
    · rw [List.length_replicate]
    · exact hz _
  intro i hi
  have hm1 : (mix (fun v => rsome ⟨o, p, x⟩ pl v o.length) (fun _ => false) o.length i).length = o.length := mix_len
  have hRl1 := hRl i 60
  have hgg1 := hgg i
  repeat' first
    | with_reducible first | refine awp_seq ?_ | refine awp_block ?_ | refine next_then ?_ | refine next_block ?_ | refine exit_then ?_ | refine ret_then ?_ | refine ret_block ?_ | refine exit_here ?_ | refine awp_exit ?_ | refine awp_ret ?_ | refine awp_skip ?_ | refine awp_label ?_ | refine next_noGoto ?_ | refine ret_noGoto ?_ | refine exit_noGoto ?_ | refine awp_scope ?_
    | ((with_reducible refine exit_past ?_ ?_); exact rfl)
    | ((with_reducible refine isCond ?_); refine awp_condO rfl ?_ ?_ <;> intro hb <;> (try simp only [zH] at hb))
    | ((with_reducible refine isRegS 13 ?_ ?_); (· exact rfl); (with_reducible refine isRegS 18 ?_ ?_); (· exact rfl); (first | refine awp_textM htb hmz spAlo_ok (fun _ => false) rfl rfl ?_ | refine awp_drawM hmo htb hmz spAlo_ok (fun _ => false) rfl rfl (by kernel_rfl) ?_); intro m' e' l' ob h; simp only [zE0, zE1, zE2, zE3, zE4, zE5, evp, evx, ev1, evLoad, evStore, evBin, isBoolK, forall_const, z38, tb, Nat.reduceAdd, Nat.reduceSub, Nat.reduceMul, Nat.reduceEqDiff, Nat.reduceLeDiff, Nat.reduceLT, Nat.reduceBEq, Nat.reduceBNe, ↓reduceIte, reduceIte, spAlo, reachS] at h; obtain ⟨rfl, rfl, rfl, rfl⟩ := h; refine ⟨?_, ?_⟩)
    | ((with_reducible refine Ob.mk ?_); first | exact trivial | (intros; omega) | ((repeat' first | apply And.intro | (intro hg; have hg' := hg; try simp only [zH] at hg')) <;> first | assumption | omega | (simp only [zH]; omega)))
  · have hin : i < o.length := by omega
    rw [hgg1 hin]
    have hms : (mix (fun v => rsome ⟨o, p, x⟩ pl v o.length) (fun _ => false) o.length i).set i (rsome ⟨o, p, x⟩ pl i o.length) = mix (fun v => rsome ⟨o, p, x⟩ pl v o.length) (fun _ => false) o.length (i + 1) := mix_set
    generalize hM : mix (fun v => rsome ⟨o, p, x⟩ pl v o.length) (fun _ => false) o.length i = M at *
    have hj1 : ∀ j, rsome ⟨o, p, x⟩ pl i (j + 1) = (rsome ⟨o, p, x⟩ pl i j || (reachL ⟨o, p, x⟩ i 60).getD j false && rgood ⟨o, p, x⟩ pl j) := fun j => rfl
    have hj0 : rgood ⟨o, p, x⟩ pl i = rsome ⟨o, p, x⟩ pl i 0 := rfl
    rw [hj0]
    generalize hR : reachL ⟨o, p, x⟩ i 60 = R at *
    generalize hS : rsome ⟨o, p, x⟩ pl i = S at *
    refine awp_loopC (τ := Nat) (fun j => j ≤ o.length) (fun j => ⟨35, [(65, .int .i64 j), (64, .int .i64 o.length), (63, .roB R), (8, .int .i64 i), (51, .int .i64 i), (50, .int .i64 o.length), (7, .own 14), (5, .own 5), (2, .rop (.agg (.cons (.roI o) (.cons (.roI p) (.cons (.roII x) .nil))))), (1, .int .i64 pl)],
      [(5, some (.bools good)), (14, some (.bools (M.set i (S j))))], []⟩) (fun j => o.length - j) 0 [] ?_ (Nat.zero_le _) ?_
    · (refine ⟨rfl, ?_, ?_⟩ <;> simp only [zE0, zE1, zE2, zE3, zE4, zE5, evp, evx, ev1, evLoad, evStore, evBin, isBoolK, forall_const, z38, tb, Nat.reduceAdd, Nat.reduceSub, Nat.reduceMul, Nat.reduceEqDiff, Nat.reduceLeDiff, Nat.reduceLT, Nat.reduceBEq, Nat.reduceBNe, ↓reduceIte, reduceIte, spAlo, reachS, zI])
      rw [hRl1]
    intro j hj
    have hgg2 := hgg j
    have hml : (M.set i (S j)).length = o.length := by rw [List.length_set, hm1]
    have hMg : (M.set i (S j)).getD i false = S j := by rw [getD_set (by omega), if_pos rfl]
    have hj1 := hj1 j
    generalize hM2 : M.set i (S j) = M2 at *
    repeat' first
      | with_reducible first | refine awp_seq ?_ | refine awp_block ?_ | refine next_then ?_ | refine next_block ?_ | refine exit_then ?_ | refine ret_then ?_ | refine ret_block ?_ | refine exit_here ?_ | refine awp_exit ?_ | refine awp_ret ?_ | refine awp_skip ?_ | refine awp_label ?_ | refine next_noGoto ?_ | refine ret_noGoto ?_ | refine exit_noGoto ?_ | refine awp_scope ?_
      | ((with_reducible refine exit_past ?_ ?_); exact rfl)
      | ((with_reducible refine isCond ?_); refine awp_condO rfl ?_ ?_ <;> intro hb <;> (try simp only [zH] at hb))
      | ((with_reducible refine isRegS 15 ?_ ?_); (· exact rfl); (with_reducible refine isRegS 17 ?_ ?_); (· exact rfl); (first | refine awp_textM htb hmz spAlo_ok (fun _ => false) rfl rfl ?_ | refine awp_drawM hmo htb hmz spAlo_ok (fun _ => false) rfl rfl (by kernel_rfl) ?_); intro m' e' l' ob h; simp only [zE0, zE1, zE2, zE3, zE4, zE5, evp, evx, ev1, evLoad, evStore, evBin, isBoolK, forall_const, z38, tb, Nat.reduceAdd, Nat.reduceSub, Nat.reduceMul, Nat.reduceEqDiff, Nat.reduceLeDiff, Nat.reduceLT, Nat.reduceBEq, Nat.reduceBNe, ↓reduceIte, reduceIte, spAlo, reachS] at h; obtain ⟨rfl, rfl, rfl, rfl⟩ := h; refine ⟨?_, ?_⟩)
      | ((with_reducible refine Ob.mk ?_); first | exact trivial | (intros; omega) | ((repeat' first | apply And.intro | (intro hg; have hg' := hg; try simp only [zH] at hg')) <;> first | assumption | omega | (simp only [zH]; omega)))
    · have hjn : j < o.length := by omega
      rw [← hgg2 hjn] at hj1
      rw [← hMg] at hj1
      repeat' first
        | with_reducible first | refine awp_seq ?_ | refine awp_block ?_ | refine next_then ?_ | refine next_block ?_ | refine exit_then ?_ | refine ret_then ?_ | refine ret_block ?_ | refine exit_here ?_ | refine awp_exit ?_ | refine awp_ret ?_ | refine awp_skip ?_ | refine awp_label ?_ | refine next_noGoto ?_ | refine ret_noGoto ?_ | refine exit_noGoto ?_ | refine awp_scope ?_
        | ((with_reducible refine exit_past ?_ ?_); exact rfl)
        | ((with_reducible refine isCond ?_); refine awp_condO rfl ?_ ?_ <;> intro hb <;> (try simp only [zH] at hb))
        | ((with_reducible refine isReg ?_); (first | refine awp_textM htb hmz spAlo_ok (fun _ => false) rfl rfl ?_ | refine awp_drawM hmo htb hmz spAlo_ok (fun _ => false) rfl rfl (by kernel_rfl) ?_); intro m' e' l' ob h; simp only [zE0, zE1, zE2, zE3, zE4, zE5, evp, evx, ev1, evLoad, evStore, evBin, isBoolK, forall_const, z38, tb, Nat.reduceAdd, Nat.reduceSub, Nat.reduceMul, Nat.reduceEqDiff, Nat.reduceLeDiff, Nat.reduceLT, Nat.reduceBEq, Nat.reduceBNe, ↓reduceIte, reduceIte, spAlo, reachS] at h; obtain ⟨rfl, rfl, rfl, rfl⟩ := h; refine ⟨?_, ?_⟩)
        | ((with_reducible refine Ob.mk ?_); first | exact trivial | (intros; omega) | ((repeat' first | apply And.intro | (intro hg; have hg' := hg; try simp only [zH] at hg')) <;> first | assumption | omega | (simp only [zH]; omega)))
      · exact Ob.mk ⟨⟨⟨⟨⟨⟨⟨by omega, by omega⟩, by omega⟩, fun h => ⟨h, by omega, by omega⟩⟩, fun h => ⟨h, by omega⟩⟩, fun h => ⟨h, fun h2 => by rw [h, h2]; rfl⟩⟩, by omega, by omega⟩, by omega⟩
      refine back (j + 1) [] ?_ (by omega) (by omega)
      (refine ⟨rfl, ?_, ?_⟩ <;> simp only [zE0, zE1, zE2, zE3, zE4, zE5, evp, evx, ev1, evLoad, evStore, evBin, isBoolK, forall_const, z38, tb, Nat.reduceAdd, Nat.reduceSub, Nat.reduceMul, Nat.reduceEqDiff, Nat.reduceLeDiff, Nat.reduceLT, Nat.reduceBEq, Nat.reduceBNe, ↓reduceIte, reduceIte, spAlo, reachS, zI])
      rw [← hj1, ← hM2, List.set_set]
    have hje : j = o.length := by omega
    subst hje
    repeat' first
      | with_reducible first | refine awp_seq ?_ | refine awp_block ?_ | refine next_then ?_ | refine next_block ?_ | refine exit_then ?_ | refine ret_then ?_ | refine ret_block ?_ | refine exit_here ?_ | refine awp_exit ?_ | refine awp_ret ?_ | refine awp_skip ?_ | refine awp_label ?_ | refine next_noGoto ?_ | refine ret_noGoto ?_ | refine exit_noGoto ?_ | refine awp_scope ?_
      | ((with_reducible refine exit_past ?_ ?_); exact rfl)
      | ((with_reducible refine isCond ?_); refine awp_condO rfl ?_ ?_ <;> intro hb <;> (try simp only [zH] at hb))
      | ((with_reducible refine isReg ?_); (first | refine awp_textM htb hmz spAlo_ok (fun _ => false) rfl rfl ?_ | refine awp_drawM hmo htb hmz spAlo_ok (fun _ => false) rfl rfl (by kernel_rfl) ?_); intro m' e' l' ob h; simp only [zE0, zE1, zE2, zE3, zE4, zE5, evp, evx, ev1, evLoad, evStore, evBin, isBoolK, forall_const, z38, tb, Nat.reduceAdd, Nat.reduceSub, Nat.reduceMul, Nat.reduceEqDiff, Nat.reduceLeDiff, Nat.reduceLT, Nat.reduceBEq, Nat.reduceBNe, ↓reduceIte, reduceIte, spAlo, reachS] at h; obtain ⟨rfl, rfl, rfl, rfl⟩ := h; refine ⟨?_, ?_⟩)
      | ((with_reducible refine Ob.mk ?_); first | exact trivial | (intros; omega) | ((repeat' first | apply And.intro | (intro hg; have hg' := hg; try simp only [zH] at hg')) <;> first | assumption | omega | (simp only [zH]; omega)))
    refine back (i + 1) [] ?_ (by omega) (by omega)
    (refine ⟨rfl, ?_, ?_⟩ <;> simp only [zE0, zE1, zE2, zE3, zE4, zE5, evp, evx, ev1, evLoad, evStore, evBin, isBoolK, forall_const, z38, tb, Nat.reduceAdd, Nat.reduceSub, Nat.reduceMul, Nat.reduceEqDiff, Nat.reduceLeDiff, Nat.reduceLT, Nat.reduceBEq, Nat.reduceBNe, ↓reduceIte, reduceIte, spAlo, reachS, zI])
    rw [← hM2]; exact hms
  have hie : i = o.length := by omega
  subst hie
  rw [mix_all]
  have hL : ((List.range o.length).map fun v => rsome ⟨o, p, x⟩ pl v o.length) = aloneL ⟨o, p, x⟩ pl := by
    refine aloneL_eq (by simp) fun v hv => ?_
    rw [← rsome_all (g := ⟨o, p, x⟩) (fun v hv => (hpr v hv).2) hrow hv]
    have : ((List.range o.length).map fun v => rsome ⟨o, p, x⟩ pl v o.length).getD v false = rsome ⟨o, p, x⟩ pl v o.length := by
      have : v < o.length := hv
      simp [List.getD_eq_getElem?_getD, this]
    rw [this]
  rw [hL]
  repeat' first
    | with_reducible first | refine awp_seq ?_ | refine awp_block ?_ | refine next_then ?_ | refine next_block ?_ | refine exit_then ?_ | refine ret_then ?_ | refine ret_block ?_ | refine exit_here ?_ | refine awp_exit ?_ | refine awp_ret ?_ | refine awp_skip ?_ | refine awp_label ?_ | refine next_noGoto ?_ | refine ret_noGoto ?_ | refine exit_noGoto ?_ | refine awp_scope ?_
    | ((with_reducible refine exit_past ?_ ?_); exact rfl)
    | ((with_reducible refine isCond ?_); refine awp_condO rfl ?_ ?_ <;> intro hb <;> (try simp only [zH] at hb))
    | ((with_reducible refine isReg ?_); (first | refine awp_textM htb hmz spAlo_ok (fun _ => false) rfl rfl ?_ | refine awp_drawM hmo htb hmz spAlo_ok (fun _ => false) rfl rfl (by kernel_rfl) ?_); intro m' e' l' ob h; simp only [zE0, zE1, zE2, zE3, zE4, zE5, evp, evx, ev1, evLoad, evStore, evBin, isBoolK, forall_const, z38, tb, Nat.reduceAdd, Nat.reduceSub, Nat.reduceMul, Nat.reduceEqDiff, Nat.reduceLeDiff, Nat.reduceLT, Nat.reduceBEq, Nat.reduceBNe, ↓reduceIte, reduceIte, spAlo, reachS] at h; obtain ⟨rfl, rfl, rfl, rfl⟩ := h; refine ⟨?_, ?_⟩)
    | ((with_reducible refine Ob.mk ?_); first | exact trivial | (intros; omega) | ((repeat' first | apply And.intro | (intro hg; have hg' := hg; try simp only [zH] at hg')) <;> first | assumption | omega | (simp only [zH]; omega)))
  refine fin_ret rfl rfl (spec_own 14 rfl rfl rfl rfl rfl (Nat.lt_of_lt_of_le (by decide : 14 < 22) (Nat.le_refl 22)))
end Go.Proofs.Ytlckljphakkomaa.Cal
namespace Go.Proofs.Ytlckljphakkomaa.Cal
open Go Pl
/-- What Wins answers. -/
noncomputable def winA (g : Gm) : List Int := winL g (g.own.length + 1) fun v => decide (v < g.own.length)
end Go.Proofs.Ytlckljphakkomaa.Cal
