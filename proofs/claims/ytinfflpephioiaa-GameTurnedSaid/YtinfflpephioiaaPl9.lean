/- Games turned round, plain Lean. -/
import Derived.Test.YtinfflpephioiaaPl8
import Derived.Test.YtinfflpephioiaaW12j
set_option linter.unusedVariables false
set_option linter.unusedSimpArgs false
namespace Go.Proofs.Ytinfflpephioiaa.Cal
open Go Pl

theorem map_getD {f : Int → Int} {l : List Int} {v : Nat} (h : v < l.length) : (l.map f).getD v 0 = f (l.getD v 0) := by
  rw [List.getD_eq_getElem?_getD, List.getElem?_map, List.getElem?_eq_getElem h, List.getD_eq_getElem?_getD, List.getElem?_eq_getElem h]; rfl

/-- The dual game. -/
def dG (g : Gm) : Gm := ⟨g.own.map fun o => 1 - o, g.pri.map fun p => p + 1, g.nxt⟩
theorem dG_len {g : Gm} : (dG g).own.length = g.own.length := List.length_map ..
theorem dual_is {g : Gm} (h : (dualR g).2 = 0) : validB g = true ∧ (∀ v, v < g.own.length → g.pri.getD v 0 ≠ 60) ∧ dualR g = (dG g, 0) := by
  unfold dualR at h ⊢
  by_cases h1 : validB g = true
  · rw [if_pos h1] at h ⊢
    by_cases h2 : ∃ v, v < g.n ∧ g.pri.getD v 0 = 60
    · rw [if_pos h2] at h; cases h
    · rw [if_neg h2]
      exact ⟨h1, fun v hv e => h2 ⟨v, hv, e⟩, rfl⟩
  · rw [if_neg h1] at h; cases h
theorem dG_own {g : Gm} {v : Nat} (hv : v < g.own.length) : (dG g).own.getD v 0 = 1 - g.own.getD v 0 := map_getD hv
theorem dG_pri {g : Gm} (hV : Valid g) {v : Nat} (hv : v < g.own.length) : (dG g).pri.getD v 0 = g.pri.getD v 0 + 1 := map_getD (by rw [hV.2.1]; exact hv)
theorem dG_valid {g : Gm} (hV : Valid g) (h : ∀ v, v < g.own.length → g.pri.getD v 0 ≠ 60) : Valid (dG g) := by
  refine ⟨by show (dG g).own.length ≤ _; rw [dG_len]; exact hV.1, ?_, ?_, fun v hv => ?_⟩
  · show (g.pri.map _).length = (dG g).own.length
    rw [List.length_map, dG_len]; exact hV.2.1
  · show g.nxt.length = (dG g).own.length
    rw [dG_len]; exact hV.2.2.1
  · have hv : v < g.own.length := by rw [← dG_len]; exact hv
    have h1 := own_facts hV hv
    have h2 := pri_facts hV hv
    have h3 := h v hv
    have h4 := dG_own hv
    have h5 := dG_pri hV hv
    have h6 := hV.2.2.2 v hv
    refine ⟨⟨?_, ?_, ?_, ?_, h6.1.2.2.2.2.1, h6.1.2.2.2.2.2⟩, fun i hi => ?_⟩
    · show 0 ≤ (dG g).own.getD v 0; omega
    · show (dG g).own.getD v 0 ≤ 1; omega
    · show 0 ≤ (dG g).pri.getD v 0; omega
    · show (dG g).pri.getD v 0 ≤ 60; omega
    · have := h6.2 i hi
      refine ⟨this.1, ?_, this.2.2⟩
      show _ < (((dG g).own.length : Nat) : Int)
      rw [dG_len]; exact this.2.1
theorem top_map {p p' : List Int} : ∀ (l : List Int) (t : Int), (∀ u, u ∈ l → p'.getD u.toNat 0 = p.getD u.toNat 0 + 1) → l.foldl (fun t u => max t (p'.getD u.toNat 0)) (t + 1) = l.foldl (fun t u => max t (p.getD u.toNat 0)) t + 1
  | [], t, _ => rfl
  | a :: l, t, h => by
    simp only [List.foldl_cons]
    rw [h a List.mem_cons_self, show max (t + 1) (p.getD a.toNat 0 + 1) = max t (p.getD a.toNat 0) + 1 by omega]
    exact top_map l _ fun u hu => h u (List.mem_cons_of_mem _ hu)
theorem top_map0 {p p' : List Int} {l : List Int} (hl : l ≠ []) (h0 : ∀ u, u ∈ l → 0 ≤ p.getD u.toNat 0) (h : ∀ u, u ∈ l → p'.getD u.toNat 0 = p.getD u.toNat 0 + 1) : topOf p' l = topOf p l + 1 := by
  cases l with
  | nil => exact absurd rfl hl
  | cons a l =>
    unfold topOf
    simp only [List.foldl_cons]
    have h1 := h0 a List.mem_cons_self
    rw [h a List.mem_cons_self, show max 0 (p.getD a.toNat 0 + 1) = max 0 (p.getD a.toNat 0) + 1 by omega]
    exact top_map l _ fun u hu => h u (List.mem_cons_of_mem _ hu)
theorem dG_play {g : Gm} {c : List Int} {f : Int} (h : (playR g c f).err = 0) (h6 : ∀ v, v < g.own.length → g.pri.getD v 0 ≠ 60) :
    playR (dG g) c f = ⟨(playR g c f).stem, (playR g c f).loop, 1 - (playR g c f).win, 0⟩ := by
  obtain ⟨hv, hc, hf, hO⟩ := play_is h
  have hV := validB_iff.1 hv
  have hfn : f.toNat < g.own.length := by simp only [Gm.n] at hf; omega
  obtain ⟨L, k, ha, _⟩ := again_ex (ch_orb hV hc hO hfn)
  have hn : (dG g).n = g.n := dG_len
  rw [play_e5 hv hc hf hO ha, play_e5 (g := dG g) (validB_true (dG_valid hV h6)) (by rw [hn]; exact hc) (by rw [hn]; exact hf) hO ha]
  have hb : ∀ u, u ∈ (way c f.toNat L).drop k → u.toNat < g.own.length := fun u hu => by
    obtain ⟨j, _, _, rfl⟩ := mem_loop.1 hu
    rw [Int.toNat_natCast]; exact ch_orb hV hc hO hfn j
  have ht : topOf (dG g).pri ((way c f.toNat L).drop k) = topOf g.pri ((way c f.toNat L).drop k) + 1 := by
    refine top_map0 ?_ (fun u hu => (pri_facts hV (hb u hu)).1) fun u hu => dG_pri hV (hb u hu)
    intro e
    have := (mem_loop (c := c) (f := f.toNat)).2 ⟨k, Nat.le_refl _, ha.2.1, rfl⟩
    rw [e] at this
    exact absurd this List.not_mem_nil
  have h0 : 0 ≤ topOf g.pri ((way c f.toNat L).drop k) := topOf_nn
  rw [ht]
  have : (topOf g.pri ((way c f.toNat L).drop k) + 1) % 2 = 1 - topOf g.pri ((way c f.toNat L).drop k) % 2 := by omega
  rw [this]

/-- The game in which a player's choices are fixed. -/
def tG (g : Gm) (c : List Int) (q : Int) : Gm := ⟨g.own, g.pri, (List.range g.n).map (tr g c q)⟩
theorem tG_row {g : Gm} {c : List Int} {q : Int} {v : Nat} (hv : v < g.own.length) : (tG g c q).nxt.getD v [] = tr g c q v := by
  have : v < g.n := hv
  simp [tG, List.getD_eq_getElem?_getD, this]
section
variable {g : Gm} {c : List Int} {q : Int}
theorem tr_in (hc : c.length = g.n) (hO : OkCh g c) {v : Nat} (hv : v < g.own.length) : c.getD v 0 ∈ tr g c q v := by
  unfold tr
  split
  · exact List.mem_cons_self
  · exact hO v (by rw [hc]; exact hv)
theorem ch_nn (hV : Valid g) (hc : c.length = g.n) (hO : OkCh g c) {v : Nat} (hv : v < g.own.length) : 0 ≤ c.getD v 0 ∧ c.getD v 0 < (g.own.length : Int) := by
  have h1 : c.getD v 0 ∈ g.nxt.getD v [] := hO v (by rw [hc]; exact hv)
  obtain ⟨j, hj, e⟩ := List.getElem_of_mem h1
  have := (hV.2.2.2 v hv).2 j hj
  have e2 : (g.nxt.getD v []).getD j 0 = c.getD v 0 := by rw [List.getD_eq_getElem?_getD, List.getElem?_eq_getElem hj, ← e]; rfl
  have h1 : 0 ≤ (g.nxt.getD v []).getD j 0 := this.1
  have h2 : (g.nxt.getD v []).getD j 0 < (g.own.length : Int) := this.2.1
  rw [e2] at h1 h2
  exact ⟨h1, h2⟩
theorem trade_is (hv : validB g = true) (hc : c.length = g.n) (hO : OkCh g c) (hq : q = 0 ∨ q = 1) : tradeR g c q = (tG g c q, 0) :=
  trade_e5 hv (by omega) hc fun v hv2 hb => hb.2.2 (hO v (by rw [hc]; exact hv2))
theorem tG_valid (hV : Valid g) (hc : c.length = g.n) (hO : OkCh g c) : Valid (tG g c q) := by
  refine ⟨hV.1, hV.2.1, by show ((List.range g.n).map (tr g c q)).length = g.n; rw [List.length_map, List.length_range], fun v hv => ?_⟩
  have hv : v < g.own.length := hv
  have h6 := hV.2.2.2 v hv
  have hr := tG_row (g := g) (c := c) (q := q) hv
  have hx : (tG g c q).x v = tr g c q v := hr
  have h7 := ch_nn hV hc hO hv
  unfold posOK
  rw [hx]
  unfold tr
  split
  · refine ⟨⟨h6.1.1, h6.1.2.1, h6.1.2.2.1, h6.1.2.2.2.1, Nat.le_refl _, by show 1 ≤ 64; decide⟩, fun i hi => ?_⟩
    have hi : i < 1 := hi
    obtain rfl : i = 0 := by omega
    exact ⟨h7.1, h7.2, fun h => absurd h (Nat.lt_irrefl _)⟩
  · exact h6
theorem tG_play {f : Int} (h : (playR g c f).err = 0) : playR (tG g c q) c f = playR g c f := by
  obtain ⟨hv, hc, hf, hO⟩ := play_is h
  have hV := validB_iff.1 hv
  have hfn : f.toNat < g.own.length := by simp only [Gm.n] at hf; omega
  obtain ⟨L, k, ha, _⟩ := again_ex (ch_orb hV hc hO hfn)
  rw [play_e5 hv hc hf hO ha, play_e5 (g := tG g c q) (validB_true (tG_valid hV hc hO)) hc hf (fun v hv2 => ?_) ha]
  · rfl
  · have hv3 : v < g.own.length := by rw [hc] at hv2; exact hv2
    have : (tG g c q).x v = tr g c q v := tG_row hv3
    rw [this]; exact tr_in hc hO hv3
theorem tG_kind (hV : Valid g) (hc : c.length = g.n) (hO : OkCh g c) {pl : Int} (hp : pl = 0 ∨ pl = 1) : kindA (tG g c (1 - pl)) pl = false :=
  kindA_no fun v hv => by
    have hv : v < g.own.length := hv
    have h1 := own_facts hV hv
    by_cases e : g.own.getD v 0 = pl
    · exact .inl e
    · right
      rw [tG_row hv]
      unfold tr
      rw [if_pos ⟨by omega, by have := ch_nn hV hc hO hv; omega⟩]
      exact Nat.le_refl _
end
theorem dG_kind {g : Gm} (hV : Valid g) {pl : Int} (hp : pl = 0 ∨ pl = 1) (h : kindA g pl = false) : kindA (dG g) (1 - pl) = false :=
  kindA_no fun v hv => by
    have hv : v < g.own.length := by rw [← dG_len]; exact hv
    have h1 := own_facts hV hv
    have h2 := dG_own hv
    by_cases e : g.own.getD v 0 = pl
    · left; omega
    · right
      show (g.nxt.getD v []).length ≤ 1
      refine Nat.le_of_not_lt fun h3 => ?_
      have := kindA_yes hv e h3
      rw [h] at this; cases this
theorem dG_alone {g : Gm} (hV : Valid g) {pl : Int} (hp : pl = 0 ∨ pl = 1) {v : Nat} : alone (dG g) (1 - pl) v ↔ alone g pl v := by
  unfold alone
  rw [dG_len]
  have hag : ∀ w, w < g.own.length → (again (dG g) (1 - pl) w ↔ again g pl w) := fun w hw => by
    have h0 := pri_facts hV hw
    unfold again
    rw [dG_pri hV hw]
    have hE : ∀ a b, a < g.own.length → (Ed (rws (dG g).nxt) (okP (dG g).pri (g.pri.getD w 0 + 1)) a b ↔ Ed (rws g.nxt) (okP g.pri (g.pri.getD w 0)) a b) := fun a b ha => by
      unfold Ed okP
      refine and_congr_right fun hb => ?_
      rw [dG_pri hV (row_facts hV ha b hb)]
      omega
    have hR : ∀ a b, a < g.own.length → (Rch (Ed (rws (dG g).nxt) (okP (dG g).pri (g.pri.getD w 0 + 1))) a b ↔ Rch (Ed (rws g.nxt) (okP g.pri (g.pri.getD w 0))) a b) := fun a b ha => by
      constructor
      · intro h
        have : Rch (Ed (rws g.nxt) (okP g.pri (g.pri.getD w 0))) a b ∧ b < g.own.length := by
          induction h with
          | refl => exact ⟨.refl _, ha⟩
          | step _ e ih =>
            have e2 := (hE _ _ ih.2).1 e
            exact ⟨.step ih.1 e2, row_facts hV ih.2 _ e2.1⟩
        exact this.1
      · intro h
        have : Rch (Ed (rws (dG g).nxt) (okP (dG g).pri (g.pri.getD w 0 + 1))) a b ∧ b < g.own.length := by
          induction h with
          | refl => exact ⟨.refl _, ha⟩
          | step _ e ih => exact ⟨.step ih.1 ((hE _ _ ih.2).2 e), row_facts hV ih.2 _ e.1⟩
        exact this.1
    have h1 : (g.pri.getD w 0 + 1) % 2 = 1 - pl ↔ g.pri.getD w 0 % 2 = pl := by omega
    rw [h1]
    refine and_congr_right fun _ => ?_
    unfold Rch1
    constructor
    · rintro ⟨t, h2, h3⟩
      have h4 := (hE _ _ hw).1 h2
      exact ⟨t, h4, (hR _ _ (row_facts hV hw _ h4.1)).1 h3⟩
    · rintro ⟨t, h2, h3⟩
      exact ⟨t, (hE _ _ hw).2 h2, (hR _ _ (row_facts hV hw _ h2.1)).2 h3⟩
  constructor
  · rintro ⟨w, h1, h2, h3⟩; exact ⟨w, h1, (hag w h1).1 h2, h3⟩
  · rintro ⟨w, h1, h2, h3⟩; exact ⟨w, h1, (hag w h1).2 h2, h3⟩
theorem dG_aloneL {g : Gm} (hV : Valid g) {pl : Int} (hp : pl = 0 ∨ pl = 1) : aloneL (dG g) (1 - pl) = aloneL g pl :=
  aloneL_eq (by simp [aloneL, dG_len]) fun v hv => by rw [aloneL_getD (by rw [dG_len]; exact hv), dG_alone hV hp]

section
variable {g : Gm} {c : List Int} {f q : Int}
theorem turn_play (hd : (dualR g).2 = 0) (hp : (playR g c f).err = 0) : playR (dualR g).1 c f = ⟨(playR g c f).stem, (playR g c f).loop, 1 - (playR g c f).win, 0⟩ := by
  obtain ⟨_, h1, h2⟩ := dual_is hd
  rw [h2]; exact dG_play hp h1
theorem turn_trade (hp : (playR g c f).err = 0) (hq : q = 0 ∨ q = 1) : tradeR g c (1 - q) = (tG g c (1 - q), 0) := by
  obtain ⟨hv, hc, _, hO⟩ := play_is hp
  exact trade_is hv hc hO (by omega)
theorem turn_one (hp : (playR g c f).err = 0) (hq : q = 0 ∨ q = 1) : oneR (tG g c (1 - q)) q = (aloneL (tG g c (1 - q)) q, 0) := by
  obtain ⟨hv, hc, _, hO⟩ := play_is hp
  have hV := validB_iff.1 hv
  exact one_e4 (validB_true (tG_valid hV hc hO)) (by omega) (tG_kind hV hc hO hq)
theorem turn_win (hp : (playR g c f).err = 0) (hq : q = 0 ∨ q = 1) (hw : (playR g c f).win = q) : (aloneL (tG g c (1 - q)) q).getD f.toNat false = true := by
  obtain ⟨hv, hc, hf, hO⟩ := play_is hp
  have hfn : f.toNat < g.own.length := by simp only [Gm.n] at hf; omega
  have h := play_alone (g := tG g c (1 - q)) (c := c) (f := f) (by rw [tG_play hp]; exact hp)
  rw [tG_play hp, hw] at h
  exact (aloneL_getD (g := tG g c (1 - q)) hfn).2 h
theorem turn_two (hp : (playR g c f).err = 0) (hq : q = 0 ∨ q = 1) (hd : (dualR (tG g c (1 - q))).2 = 0) : oneR (dualR (tG g c (1 - q))).1 (1 - q) = (aloneL (tG g c (1 - q)) q, 0) := by
  obtain ⟨hv, hc, hf, hO⟩ := play_is hp
  have hV := validB_iff.1 hv
  have hT := tG_valid (q := 1 - q) hV hc hO
  obtain ⟨_, h1, h2⟩ := dual_is hd
  rw [h2]
  show oneR (dG (tG g c (1 - q))) (1 - q) = _
  rw [one_e4 (validB_true (dG_valid hT h1)) (by omega) (dG_kind hT hq (tG_kind hV hc hO hq)), dG_aloneL hT hq]
theorem turn_w (hp : (playR g c f).err = 0) : 0 ≤ (playR g c f).win ∧ (playR g c f).win ≤ 1 := by
  obtain ⟨hv, hc, hf, hO⟩ := play_is hp
  have hV := validB_iff.1 hv
  have hfn : f.toNat < g.own.length := by simp only [Gm.n] at hf; omega
  obtain ⟨L, k, ha, _⟩ := again_ex (ch_orb hV hc hO hfn)
  rw [play_e5 hv hc hf hO ha]
  dsimp only
  omega
theorem turn_from (hp : (playR g c f).err = 0) : 0 ≤ f ∧ f < (g.own.length : Int) := by
  obtain ⟨hv, hc, hf, hO⟩ := play_is hp
  simp only [Gm.n] at hf; omega
end

end Go.Proofs.Ytinfflpephioiaa.Cal
