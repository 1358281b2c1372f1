/- Own texts of the proof, merged, in order. -/
import Derived.Test.YtlckljphakkomaaS20
set_option linter.unusedVariables false
set_option linter.unusedSimpArgs false
namespace Go.Proofs.Ytlckljphakkomaa.Cal
open Go Pl
/-- The successors that are kept, by their numbers. -/
def ptr (x : List (List Int)) (k : List Bool) (v : Nat) : List Int := ((x.getD v []).filter fun t => k.getD t.toNat false).map fun t => nmF k t.toNat
def partG (g : Gm) (k : List Bool) : Gm := ⟨(kp k g.own.length).map fun v => g.own.getD v 0, (kp k g.own.length).map fun v => g.pri.getD v 0, (kp k g.own.length).map (ptr g.nxt k)⟩
theorem pairwise_getD {l : List Int} (h : l.Pairwise (· < ·)) {j : Nat} (hj : j < l.length) (h0 : 0 < j) : l.getD (j - 1) 0 < l.getD j 0 := by
  have := List.pairwise_iff_getElem.1 h (j - 1) j (by omega) hj (by omega)
  rw [List.getD_eq_getElem?_getD, List.getElem?_eq_getElem (by omega), Option.getD_some, List.getD_eq_getElem?_getD, List.getElem?_eq_getElem hj, Option.getD_some]
  exact this
theorem pairwise_of {l : List Int} (h : ∀ j, j < l.length → 0 < j → l.getD (j - 1) 0 < l.getD j 0) : l.Pairwise (· < ·) := by
  have hd : ∀ j, (hj : j < l.length) → l.getD j 0 = l[j] := fun j hj => by rw [List.getD_eq_getElem?_getD, List.getElem?_eq_getElem hj]; rfl
  have key : ∀ j i, i < j → j < l.length → l.getD i 0 < l.getD j 0 := by
    intro j
    induction j with
    | zero => intro i hi; omega
    | succ j ih =>
      intro i hi hj
      have h1 := h (j + 1) hj (by omega)
      rw [Nat.add_sub_cancel] at h1
      rcases Nat.lt_succ_iff_lt_or_eq.1 hi with h2 | rfl
      · have := ih i h2 (by omega); omega
      · exact h1
  rw [List.pairwise_iff_getElem]
  intro i j hi hj hij
  have := key j i hij hj
  rwa [hd i hi, hd j hj] at this
section
variable {g : Gm} {k : List Bool}
theorem kp_num {t n : Nat} (h : k.getD t false = true) (ht : t < n) : (nmF k t).toNat < (kp k n).length ∧ (kp k n).getD (nmF k t).toNat 0 = t := by
  unfold nmF
  rw [if_pos h, Int.toNat_natCast]
  exact kp_get h ht
theorem kp_mono {s t : Nat} (h : k.getD s false = true) (hst : s < t) : (kp k s).length < (kp k t).length := (kp_get h hst).1
theorem part_row {v : Nat} {t : Int} : t ∈ ptr g.nxt k v ↔ ∃ s, s ∈ g.nxt.getD v [] ∧ k.getD s.toNat false = true ∧ t = nmF k s.toNat := by
  unfold ptr
  rw [List.mem_map]
  constructor
  · rintro ⟨s, h1, rfl⟩
    obtain ⟨h2, h3⟩ := List.mem_filter.1 h1
    exact ⟨s, h2, h3, rfl⟩
  · rintro ⟨s, h1, h2, rfl⟩
    exact ⟨s, List.mem_filter.2 ⟨h1, h2⟩, rfl⟩
theorem part_valid (hV : Valid g) (hne : ∀ v, v < g.own.length → k.getD v false = true → ptr g.nxt k v ≠ []) : Valid (partG g k) := by
  have hG := gok hV
  have hl : (partG g k).n = (kp k g.own.length).length := List.length_map ..
  refine ⟨?_, ?_, ?_, fun i hi => ?_⟩
  · rw [hl]; exact Nat.le_trans kp_len hG.n
  · rw [hl]; exact List.length_map ..
  · rw [hl]; exact List.length_map ..
  rw [hl] at hi
  obtain ⟨h1, h2⟩ := kp_at hi
  have e1 : (partG g k).o i = g.own.getD ((kp k g.own.length).getD i 0) 0 := map_getD hi
  have e2 : (partG g k).p i = g.pri.getD ((kp k g.own.length).getD i 0) 0 := map_getD hi
  have e3 : (partG g k).x i = ptr g.nxt k ((kp k g.own.length).getD i 0) := map_getD hi
  have hn2 := hl
  generalize (kp k g.own.length).getD i 0 = v at *
  have hne := hne v h1 h2
  obtain ⟨⟨a1, a2, a3, a4, a5, a6⟩, hrow⟩ := hV.2.2.2 v h1
  have hlen : 1 ≤ (ptr g.nxt k v).length ∧ (ptr g.nxt k v).length ≤ 64 := by
    refine ⟨List.length_pos_iff.2 hne, ?_⟩
    unfold ptr
    rw [List.length_map]
    exact Nat.le_trans (List.length_filter_le _ _) a6
  have hbd : ∀ s, s ∈ g.nxt.getD v [] → 0 ≤ s ∧ s < g.own.length := fun s hs => by
    obtain ⟨j, hj, rfl⟩ := mem_ix hs
    exact ⟨(hrow j hj).1, (hrow j hj).2.1⟩
  have hpw : (ptr g.nxt k v).Pairwise (· < ·) := by
    unfold ptr
    rw [List.pairwise_map]
    have h0 : (g.nxt.getD v []).Pairwise (· < ·) := pairwise_of fun j hj h0 => (hrow j hj).2.2 h0
    have h3 := h0.sublist (List.filter_sublist (p := fun t : Int => k.getD t.toNat false))
    refine h3.imp_of_mem fun {a b} ha hb hab => ?_
    obtain ⟨ha1, ha2⟩ := List.mem_filter.1 ha
    obtain ⟨hb1, hb2⟩ := List.mem_filter.1 hb
    have := hbd a ha1
    have := hbd b hb1
    unfold nmF
    rw [if_pos ha2, if_pos hb2]
    have := kp_mono ha2 (show a.toNat < b.toNat by omega)
    omega
  have hin : ∀ t, t ∈ ptr g.nxt k v → 0 ≤ t ∧ t < (kp k g.own.length).length := fun t ht => by
    obtain ⟨s, h3, h4, rfl⟩ := part_row.1 ht
    have hs := hbd s h3
    have := (kp_num (n := g.own.length) h4 (by omega)).1
    unfold nmF at this ⊢
    rw [if_pos h4] at this ⊢
    omega
  unfold posOK
  rw [e1, e2, e3]
  refine ⟨⟨a1, a2, a3, a4, hlen⟩, fun j hj => ⟨?_, ?_, fun h0 => pairwise_getD hpw hj h0⟩⟩
  · exact (hin _ (by rw [List.getD_eq_getElem?_getD, List.getElem?_eq_getElem hj]; exact List.getElem_mem hj)).1
  · rw [hn2]
    exact (hin _ (by rw [List.getD_eq_getElem?_getD, List.getElem?_eq_getElem hj]; exact List.getElem_mem hj)).2
/-- The choices, by their numbers. -/
def chF (k : List Bool) (c : Int) : Int := if c = -1 then -1 else nmF k c.toNat
def partW (g : Gm) (k : List Bool) (W : List Int) : List Int := (kp k g.own.length).map fun v => W.getD v 0
def partC (g : Gm) (k : List Bool) (C : List Int) : List Int := (kp k g.own.length).map fun v => chF k (C.getD v 0)
theorem part_sol (hV : Valid g) (hk : k.length ≤ g.own.length) (hne : ∀ v, v < g.own.length → k.getD v false = true → ptr g.nxt k v ≠ []) {W C W0 C0 : List Int} (S : ZS2 g k W0 C0 W C) : solB (partG g k) (partW g k W) (partC g k C) = true := by
  have hVp := part_valid hV hne
  have hn : (partG g k).own.length = (kp k g.own.length).length := List.length_map ..
  have hlt : ∀ v, k.getD v false = true → v < g.own.length := fun v h => lt_of_in hk h
  have hnum : ∀ t, k.getD t false = true → (nmF k t).toNat < (kp k g.own.length).length ∧ (kp k g.own.length).getD (nmF k t).toNat 0 = t := fun t h => kp_num h (hlt t h)
  have ho : ∀ i, i < (kp k g.own.length).length → (partG g k).own.getD i 0 = g.own.getD ((kp k g.own.length).getD i 0) 0 := fun i hi => map_getD hi
  have hp : ∀ i, i < (kp k g.own.length).length → (partG g k).pri.getD i 0 = g.pri.getD ((kp k g.own.length).getD i 0) 0 := fun i hi => map_getD hi
  have hx : ∀ i, i < (kp k g.own.length).length → (partG g k).nxt.getD i [] = ptr g.nxt k ((kp k g.own.length).getD i 0) := fun i hi => map_getD hi
  have hw : ∀ i, i < (kp k g.own.length).length → (partW g k W).getD i 0 = W.getD ((kp k g.own.length).getD i 0) 0 := fun i hi => map_getD hi
  have hc : ∀ i, i < (kp k g.own.length).length → (partC g k C).getD i 0 = chF k (C.getD ((kp k g.own.length).getD i 0) 0) := fun i hi => map_getD hi
  have hat : ∀ i, i < (kp k g.own.length).length → k.getD ((kp k g.own.length).getD i 0) false = true := fun i hi => (kp_at hi).2
  generalize hkk : kp k g.own.length = kk at *
  -- where a choice goes
  have hch : ∀ v, k.getD v false = true → g.own.getD v 0 = W.getD v 0 → 0 ≤ C.getD v 0 ∧ C.getD v 0 ∈ g.nxt.getD v [] ∧ k.getD (C.getD v 0).toNat false = true ∧ W.getD (C.getD v 0).toNat 0 = W.getD v 0 ∧ chF k (C.getD v 0) = nmF k (C.getD v 0).toNat := fun v hv he => by
    have h1 := S.inD v hv he
    obtain ⟨h2, h3, h4⟩ := (S.sol (W.getD v 0) (S.inW v hv)).mine v hv rfl he
    obtain ⟨z, hz, e⟩ := List.mem_map.1 h2
    have h5 := ((row_of hV (hlt v hv)).2 z hz).1
    have : z = C.getD v 0 := by omega
    exact ⟨h1, this ▸ hz, h3, h4, by unfold chF; rw [if_neg (by omega)]⟩
  have hrow : ∀ i, i < kk.length → ∀ t, t ∈ rws (partG g k).nxt i → ∃ s : Int, s ∈ g.nxt.getD (kk.getD i 0) [] ∧ k.getD s.toNat false = true ∧ t = (nmF k s.toNat).toNat := fun i hi t ht => by
    obtain ⟨z, hz, rfl⟩ := List.mem_map.1 ht
    rw [hx i hi] at hz
    obtain ⟨s, h1, h2, rfl⟩ := part_row.1 hz
    exact ⟨s, h1, h2, rfl⟩
  refine (solB_iff hVp).2 ⟨decide_eq_true ⟨?_, ?_, fun i hi => ?_⟩, fun p hp01 => ⟨fun i hi hwi hoi => ?_, fun i hi hwi hoi t ht hKt => ?_, fun w hw1 hww hpr hcy => ?_⟩⟩
  · rw [hn]; unfold partW; rw [List.length_map, hkk]
  · rw [hn]; unfold partC; rw [List.length_map, hkk]
  · rw [hn] at hi
    rw [hw i hi, ho i hi, hc i hi, hx i hi]
    refine ⟨S.inW _ (hat i hi), fun he => ?_, fun he => ?_⟩
    · obtain ⟨h1, h2, h3, h4, h5⟩ := hch _ (hat i hi) he
      rw [h5]
      exact part_row.2 ⟨_, h2, h3, rfl⟩
    · unfold chF
      rw [if_pos (S.inC _ (hat i hi) he)]
  · have hi : i < kk.length := by rw [← hn]; exact hi
    have hwi : (partW g k W).getD i 0 = p := hwi
    have hoi : (partG g k).own.getD i 0 = p := hoi
    rw [hw i hi] at hwi
    rw [ho i hi] at hoi
    obtain ⟨h1, h2, h3, h4, h5⟩ := hch _ (hat i hi) (hoi.trans hwi.symm)
    obtain ⟨h6, h7⟩ := hnum _ h3
    show ((partC g k C).getD i 0).toNat ∈ rws (partG g k).nxt i ∧ ((partC g k C).getD i 0).toNat < (partG g k).own.length ∧ (partW g k W).getD ((partC g k C).getD i 0).toNat 0 = p
    rw [hc i hi, h5, hn, hw _ h6, h7, h4]
    refine ⟨List.mem_map.2 ⟨_, ?_, rfl⟩, h6, hwi⟩
    rw [hx i hi]
    exact part_row.2 ⟨_, h2, h3, rfl⟩
  · have hi : i < kk.length := by rw [← hn]; exact hi
    have hwi : (partW g k W).getD i 0 = p := hwi
    have hoi : (partG g k).own.getD i 0 ≠ p := hoi
    rw [hw i hi] at hwi
    rw [ho i hi] at hoi
    obtain ⟨s, h1, h2, rfl⟩ := hrow i hi t ht
    obtain ⟨h6, h7⟩ := hnum _ h2
    show (partW g k W).getD _ 0 = p
    rw [hw _ h6, h7]
    exact (S.sol p hp01).his _ (hat i hi) hwi hoi s.toNat (List.mem_map.2 ⟨s, h1, rfl⟩) h2
  · have hw1 : w < kk.length := by rw [← hn]; exact hw1
    have hww : (partW g k W).getD w 0 = p := hww
    have hpr : (partG g k).pri.getD w 0 % 2 ≠ p := hpr
    rw [hw w hw1] at hww
    have hE : ∀ a b, True → Low (Stp (fun v => (partG g k).own.getD v 0) (rws (partG g k).nxt) (fun v => v < (partG g k).own.length) (fun v => (partW g k W).getD v 0) (fun v => ((partC g k C).getD v 0).toNat) p) (fun v => (partG g k).pri.getD v 0) w a b →
        Low (Stp (fun v => g.own.getD v 0) (rws g.nxt) (fun v => k.getD v false = true) (fun v => W.getD v 0) (fun v => (C.getD v 0).toNat) p) (fun v => g.pri.getD v 0) (kk.getD w 0) (kk.getD a 0) (kk.getD b 0) ∧ True := by
      rintro a b _ ⟨⟨⟨ha, hwa⟩, hb, hm, hh⟩, hl⟩
      have ha : a < kk.length := by rw [← hn]; exact ha
      have hb : b < kk.length := by rw [← hn]; exact hb
      have hwa : (partW g k W).getD a 0 = p := hwa
      have hl : (partG g k).pri.getD b 0 ≤ (partG g k).pri.getD w 0 := hl
      rw [hw a ha] at hwa
      rw [hp b hb, hp w hw1] at hl
      refine ⟨⟨⟨⟨hat a ha, hwa⟩, hat b hb, fun he => ?_, fun he => ?_⟩, hl⟩, trivial⟩
      · have he : g.own.getD (kk.getD a 0) 0 = p := he
        obtain ⟨h1, h2, h3, h4, h5⟩ := hch _ (hat a ha) (he.trans hwa.symm)
        have := hm (by show (partG g k).own.getD a 0 = p; rw [ho a ha]; exact he)
        have this : b = ((partC g k C).getD a 0).toNat := this
        rw [hc a ha, h5] at this
        rw [this]
        exact (hnum _ h3).2
      · have he : g.own.getD (kk.getD a 0) 0 ≠ p := he
        have := hh (by show (partG g k).own.getD a 0 ≠ p; rw [ho a ha]; exact he)
        obtain ⟨s, h1, h2, rfl⟩ := hrow a ha b this
        rw [(hnum _ h2).2]
        exact List.mem_map.2 ⟨s, h1, rfl⟩
    obtain ⟨t, h1, h2⟩ := hcy
    refine (S.sol p hp01).cyc (kk.getD w 0) (hat w hw1) hww (by rw [hp w hw1] at hpr; exact hpr) ⟨kk.getD t 0, (hE w t trivial h1).1, (Rch.mapD (D := fun _ => True) hE h2 trivial).1⟩
theorem part_full (hV : Valid g) (hk : k.length = g.own.length) (hT : ∀ u, k.getD u false = true → ∃ v, v ∈ sc g.nxt u ∧ k.getD v false = true) {W C : List Int} (h : ZP g k W C 131072) :
    16 < (partG g k).own.length ∧ ¬ ∃ a b, ∀ v, v < (partG g k).own.length → (partG g k).pri.getD v 0 = a ∨ (partG g k).pri.getD v 0 = b := by
  have hc := ZP_cost h hk hT
  have hn : g.own.length ≤ 20000 := hV.1
  have hl : (partG g k).own.length = ctK g k := by
    show ((kp k g.own.length).map _).length = _
    rw [List.length_map]
    unfold kp ctK cntZ
    rw [List.countP_eq_length_filter]
  have hle : ctK g k ≤ g.own.length := by
    unfold ctK cntZ
    exact Nat.le_trans List.countP_le_length (by rw [List.length_range]; omega)
  refine ⟨Nat.lt_of_not_le fun hle2 => ?_, fun ⟨a, b, hab⟩ => ?_⟩
  · have h1 : 2 ^ (ctK g k + 1) ≤ 2 ^ 17 := Nat.pow_le_pow_right (by decide) (by omega)
    have := hc 131071 (.inr (.inr (.inr (by omega))))
    omega
  · have := hc (3 * (ctK g k : Int) + 2) (.inr (.inr (.inl ⟨⟨a, b, fun v hv => ?_⟩, Int.le_refl _⟩)))
    · omega
    · obtain ⟨h1, h2⟩ := kp_num (n := g.own.length) hv (lt_of_in (by omega) hv)
      have h3 := hab (nmF k v).toNat (by show _ < ((kp k g.own.length).map _).length; rw [List.length_map]; exact h1)
      have e : (partG g k).pri.getD (nmF k v).toNat 0 = g.pri.getD v 0 := by
        have : (partG g k).pri.getD (nmF k v).toNat 0 = g.pri.getD ((kp k g.own.length).getD (nmF k v).toNat 0) 0 := map_getD h1
        rw [this, h2]
      rwa [e] at h3
end
end Go.Proofs.Ytlckljphakkomaa.Cal
