/- What a play that comes again says about a player who chooses alone; games turned. Plain Lean. -/
import Derived.Test.YtinfflpephioiaaW12z
import Derived.Test.YtinfflpephioiaaW12d
set_option linter.unusedVariables false
set_option linter.unusedSimpArgs false
namespace Go.Proofs.Ytinfflpephioiaa.Cal
open Go Pl

theorem play_is {g : Gm} {c : List Int} {f : Int} (h : (playR g c f).err = 0) : validB g = true ∧ c.length = g.n ∧ ¬ (f < 0 ∨ (g.n : Int) ≤ f) ∧ OkCh g c := by
  by_cases h1 : validB g = true
  · by_cases h2 : c.length = g.n
    · by_cases h3 : f < 0 ∨ (g.n : Int) ≤ f
      · rw [play_e3 h1 h2 h3] at h; cases h
      · by_cases h4 : OkCh g c
        · exact ⟨h1, h2, h3, h4⟩
        · rw [play_e4 h1 h2 h3 h4] at h; cases h
    · rw [play_e2 h1 h2] at h; cases h
  · rw [play_e1 (by simpa using h1)] at h; cases h

theorem row_facts {g : Gm} (hV : Valid g) {v : Nat} (hv : v < g.own.length) : ∀ t, t ∈ rws g.nxt v → t < g.own.length := fun t ht => by
  obtain ⟨j, hj, rfl⟩ := List.getElem_of_mem ht
  rw [rws_len] at hj
  have := (hV.2.2.2 v hv).2 j hj
  have h1 : 0 ≤ (g.nxt.getD v []).getD j 0 := this.1
  have h2 : (g.nxt.getD v []).getD j 0 < (g.own.length : Int) := this.2.1
  have e : (rws g.nxt v)[j] = (rws g.nxt v).getD j 0 := by rw [List.getD_eq_getElem?_getD, List.getElem?_eq_getElem (by rw [rws_len]; exact hj)]; rfl
  rw [e, rws_getD]; omega
theorem pri_facts {g : Gm} (hV : Valid g) {v : Nat} (hv : v < g.own.length) : 0 ≤ g.pri.getD v 0 ∧ g.pri.getD v 0 ≤ 60 := ⟨(hV.2.2.2 v hv).1.2.2.1, (hV.2.2.2 v hv).1.2.2.2.1⟩
theorem own_facts {g : Gm} (hV : Valid g) {v : Nat} (hv : v < g.own.length) : 0 ≤ g.own.getD v 0 ∧ g.own.getD v 0 ≤ 1 := ⟨(hV.2.2.2 v hv).1.1, (hV.2.2.2 v hv).1.2.1⟩

section
variable {g : Gm} {c : List Int}
theorem ch_step (hV : Valid g) (hc : c.length = g.n) (hO : OkCh g c) {v : Nat} (hv : v < g.own.length) : chF c v ∈ rws g.nxt v ∧ chF c v < g.own.length := by
  have h1 : c.getD v 0 ∈ g.nxt.getD v [] := hO v (by rw [hc]; exact hv)
  have h2 : chF c v ∈ rws g.nxt v := List.mem_map.2 ⟨_, h1, rfl⟩
  exact ⟨h2, row_facts hV hv _ h2⟩
theorem ch_orb (hV : Valid g) (hc : c.length = g.n) (hO : OkCh g c) {f : Nat} (hf : f < g.own.length) : ∀ j, orb (chF c) f j < g.own.length
  | 0 => hf
  | j + 1 => (ch_step hV hc hO (ch_orb hV hc hO hf j)).2
theorem orb_rch (hV : Valid g) (hc : c.length = g.n) (hO : OkCh g c) {f : Nat} (hf : f < g.own.length) : ∀ j, RchA g.nxt f (orb (chF c) f j)
  | 0 => .refl _
  | j + 1 => .step (orb_rch hV hc hO hf j) (ch_step hV hc hO (ch_orb hV hc hO hf j)).1

theorem orb_late {F : Nat → Nat} {f L k : Nat} (h : Again F f L k) : ∀ j, k ≤ j → ∃ j', k ≤ j' ∧ j' < L ∧ orb F f j = orb F f j' := by
  intro j
  induction j with
  | zero => intro hk; exact ⟨0, hk, by have := h.2.1; omega, rfl⟩
  | succ j ih =>
    intro hk
    by_cases e : k = j + 1
    · exact ⟨j + 1, hk, by rw [← e]; exact h.2.1, rfl⟩
    · obtain ⟨j', h1, h2, h3⟩ := ih (by omega)
      have h4 : orb F f (j + 1) = orb F f (j' + 1) := by show F _ = F _; rw [h3]
      by_cases e2 : j' + 1 = L
      · exact ⟨k, Nat.le_refl _, h.2.1, by rw [h4, e2]; exact h.2.2⟩
      · exact ⟨j' + 1, by omega, by omega, h4⟩
theorem orb_turn {F : Nat → Nat} {f L k : Nat} (h : Again F f L k) : ∀ i, orb F f (L + i) = orb F f (k + i)
  | 0 => h.2.2
  | i + 1 => congrArg F (orb_turn h i)

theorem topOf_mem {p : List Int} : ∀ (l : List Int) (t : Int), (∀ u, u ∈ l → p.getD u.toNat 0 ≤ l.foldl (fun t u => max t (p.getD u.toNat 0)) t) ∧ (l.foldl (fun t u => max t (p.getD u.toNat 0)) t = t ∨ ∃ u, u ∈ l ∧ p.getD u.toNat 0 = l.foldl (fun t u => max t (p.getD u.toNat 0)) t)
  | [], t => ⟨fun u h => absurd h List.not_mem_nil, .inl rfl⟩
  | a :: l, t => by
    obtain ⟨h1, h2⟩ := topOf_mem (p := p) l (max t (p.getD a.toNat 0))
    have h3 := topOf_ge (p := p) l (max t (p.getD a.toNat 0))
    simp only [List.foldl_cons]
    refine ⟨fun u hu => ?_, ?_⟩
    · rcases List.mem_cons.1 hu with rfl | hu
      · omega
      · exact h1 u hu
    · rcases h2 with h2 | ⟨u, hu, h2⟩
      · by_cases e : t ≤ p.getD a.toNat 0
        · exact .inr ⟨a, List.mem_cons_self, by omega⟩
        · exact .inl (by omega)
      · exact .inr ⟨u, List.mem_cons_of_mem _ hu, h2⟩
theorem mem_loop {f L k : Nat} {u : Int} : u ∈ (way c f L).drop k ↔ ∃ j, k ≤ j ∧ j < L ∧ u = (orb (chF c) f j : Int) := by
  unfold way
  rw [← List.map_drop]
  constructor
  · intro h
    obtain ⟨j, h1, rfl⟩ := List.mem_map.1 h
    obtain ⟨i, hi, rfl⟩ := List.getElem_of_mem h1
    rw [List.length_drop, List.length_range] at hi
    rw [List.getElem_drop, List.getElem_range]
    exact ⟨k + i, by omega, by omega, rfl⟩
  · rintro ⟨j, h1, h2, rfl⟩
    refine List.mem_map.2 ⟨j, ?_, rfl⟩
    have : (List.range L).drop k = (List.range L).drop k := rfl
    rw [List.mem_iff_getElem]
    exact ⟨j - k, by rw [List.length_drop, List.length_range]; omega, by rw [List.getElem_drop, List.getElem_range]; omega⟩
theorem loop_top (hV : Valid g) (hc : c.length = g.n) (hO : OkCh g c) {f L k : Nat} (hf : f < g.own.length) (ha : Again (chF c) f L k) :
    (∀ j, k ≤ j → j < L → g.pri.getD (orb (chF c) f j) 0 ≤ topOf g.pri ((way c f L).drop k)) ∧ ∃ j, k ≤ j ∧ j < L ∧ g.pri.getD (orb (chF c) f j) 0 = topOf g.pri ((way c f L).drop k) := by
  obtain ⟨h1, h2⟩ := topOf_mem (p := g.pri) ((way c f L).drop k) 0
  refine ⟨fun j hj hL => ?_, ?_⟩
  · have := h1 _ (mem_loop.2 ⟨j, hj, hL, rfl⟩)
    rw [Int.toNat_natCast] at this; exact this
  · rcases h2 with h2 | ⟨u, hu, h2⟩
    · have h3 := h1 _ (mem_loop.2 ⟨k, Nat.le_refl _, ha.2.1, rfl⟩)
      rw [Int.toNat_natCast] at h3
      have h4 := (pri_facts hV (ch_orb hV hc hO hf k)).1
      refine ⟨k, Nat.le_refl _, ha.2.1, ?_⟩
      unfold topOf
      omega
    · obtain ⟨j, h3, h4, rfl⟩ := mem_loop.1 hu
      rw [Int.toNat_natCast] at h2
      exact ⟨j, h3, h4, h2⟩

/-- Where the play is won, the player alone wins. -/
theorem play_alone {f : Int} (h : (playR g c f).err = 0) : alone g (playR g c f).win f.toNat := by
  obtain ⟨hv, hc, hf, hO⟩ := play_is h
  have hV := validB_iff.1 hv
  have hfn : f.toNat < g.own.length := by simp only [Gm.n] at hf; omega
  obtain ⟨L, k, ha, _⟩ := again_ex (ch_orb hV hc hO hfn)
  rw [play_e5 hv hc hf hO ha]
  obtain ⟨h1, j, hj, hjL, h2⟩ := loop_top hV hc hO hfn ha
  refine ⟨orb (chF c) f.toNat j, ch_orb hV hc hO hfn j, ⟨by rw [h2], ?_⟩, orb_rch hV hc hO hfn j⟩
  rw [h2]
  have hall : ∀ i, k ≤ i → g.pri.getD (orb (chF c) f.toNat i) 0 ≤ topOf g.pri ((way c f.toNat L).drop k) := fun i hi => by
    obtain ⟨j', g1, g2, g3⟩ := orb_late ha i hi
    rw [g3]; exact h1 j' g1 g2
  have hstep : ∀ i, k ≤ i → Ed (rws g.nxt) (okP g.pri (topOf g.pri ((way c f.toNat L).drop k))) (orb (chF c) f.toNat i) (orb (chF c) f.toNat (i + 1)) := fun i hi => ⟨(ch_step hV hc hO (ch_orb hV hc hO hfn i)).1, hall (i + 1) (by omega)⟩
  have hrun : ∀ i, k ≤ i → ∀ m, Rch (Ed (rws g.nxt) (okP g.pri (topOf g.pri ((way c f.toNat L).drop k)))) (orb (chF c) f.toNat i) (orb (chF c) f.toNat (i + m)) := fun i hi m => by
    induction m with
    | zero => exact .refl _
    | succ m ih => exact .step ih (hstep (i + m) (by omega))
  refine ⟨_, hstep j hj, ?_⟩
  have h3 := hrun (j + 1) (by omega) (L - k - 1)
  have h4 : orb (chF c) f.toNat (j + 1 + (L - k - 1)) = orb (chF c) f.toNat j := by
    have := orb_turn ha (j - k)
    rw [show j + 1 + (L - k - 1) = L + (j - k) by have := ha.2.1; omega, this, show k + (j - k) = j by omega]
  rwa [h4] at h3
end

theorem one_play {g : Gm} {c : List Int} {pl : Int} {i : Nat} (hi : i < (oneR g pl).1.length) (h : (playR g c i).err = 0) (hw : (playR g c i).win = pl) : (oneR g pl).1.getD i false = true := by
  have hv := (play_is h).1
  have ha := play_alone h
  rw [hw, Int.toNat_natCast] at ha
  by_cases h1 : pl ≠ 0 ∧ pl ≠ 1
  · rw [one_e2 hv h1] at hi; exact absurd hi (Nat.not_lt_zero _)
  · cases h2 : kindA g pl with
    | true => rw [one_e3 hv h1 h2] at hi; exact absurd hi (Nat.not_lt_zero _)
    | false =>
      rw [one_e4 hv h1 h2] at hi ⊢
      exact (aloneL_getD (by simpa [aloneL] using hi)).2 ha

end Go.Proofs.Ytinfflpephioiaa.Cal
