/- Own texts of the proof, merged, in order. -/
import Derived.Test.YtgminhedbeblpaaS24
set_option linter.unusedVariables false
set_option linter.unusedSimpArgs false
namespace Go.Proofs.Ytgminhedbeblpaa.Cal
section
open Go Pl
theorem odN_mem {p : List Int} {o : Int} : ∀ {k : Nat}, o ∈ odN p k ↔ ∃ j : Nat, j < k ∧ o = 60 - (j : Int) ∧ o % 2 = 1 ∧ 0 < p.count o
  | 0 => ⟨fun h => absurd h List.not_mem_nil, fun ⟨j, h, _⟩ => absurd h (Nat.not_lt_zero j)⟩
  | k + 1 => by
    have ih := odN_mem (p := p) (o := o) (k := k)
    constructor
    · intro h
      rw [odN] at h
      split at h
      · rename_i hc
        rcases List.mem_append.1 h with h | h
        · obtain ⟨j, h1, h2⟩ := ih.1 h; exact ⟨j, by omega, h2⟩
        · rw [List.mem_singleton.1 h]; exact ⟨k, Nat.lt_succ_self k, rfl, hc.1, hc.2⟩
      · obtain ⟨j, h1, h2⟩ := ih.1 h; exact ⟨j, by omega, h2⟩
    · rintro ⟨j, h1, h2, h3, h4⟩
      rw [odN]
      by_cases e : j = k
      · subst e
        rw [if_pos ⟨by rw [← h2]; exact h3, by rw [← h2]; exact h4⟩, h2]
        exact List.mem_append_right _ List.mem_cons_self
      · have := ih.2 ⟨j, by omega, h2, h3, h4⟩
        split
        · exact List.mem_append_left _ this
        · exact this
theorem odN_dec {p : List Int} : ∀ k : Nat, (odN p k).Pairwise (· > ·)
  | 0 => List.Pairwise.nil
  | k + 1 => by
    rw [odN]
    split
    · rw [List.pairwise_append]
      refine ⟨odN_dec k, List.pairwise_singleton _ _, fun a ha b hb => ?_⟩
      obtain ⟨j, h1, h2, _⟩ := odN_mem.1 ha
      rw [List.mem_singleton.1 hb]
      show 60 - (k : Int) < a
      omega
    · exact odN_dec k
theorem odn_ods {g : Gm} (hG : GOk g) : OddS g.pri (odN g.pri 61) (mnN g.pri 61) := by
  refine ⟨odN_dec 61, fun v hv ho => ?_, rfl⟩
  have hb := hG.pri v (by rw [← hG.pl]; exact hv)
  refine odN_mem.2 ⟨(60 - g.pri.getD v 0).toNat, by omega, by omega, by omega, List.count_pos_iff.2 ?_⟩
  rw [List.getD_eq_getElem?_getD, List.getElem?_eq_getElem hv]
  exact List.getElem_mem _
theorem odn_odd {p : List Int} : ∀ o, o ∈ odN p 61 → o % 2 ≠ 0 := fun o h => by
  obtain ⟨j, _, _, h, _⟩ := odN_mem.1 h; omega
noncomputable def meaV (g : Gm) (v : Nat) : Int := (leastL g (odN g.pri 61) (mnN g.pri 61)).getD v 0
theorem mea_least {g : Gm} (hG : GOk g) : Least g (odN g.pri 61) (mnN g.pri 61) (leastL g (odN g.pri 61) (mnN g.pri 61)) := least_ex mnN_pos hG.row fun v hv => (hG.len v hv).1
theorem mea_bd {g : Gm} (hG : GOk g) {v : Nat} (hv : v < g.own.length) : 0 ≤ meaV g v ∧ meaV g v ≤ rpr (mnN g.pri 61) := (mea_least hG).rng v hv
theorem meaF_eq {g : Gm} {v : Nat} : meaF g v = deM (mnN g.pri 61) (meaV g v) := rfl
theorem deM_fst {many : List Int} {V : Int} : (deM many V).1 = decide (V = rpr many) := by
  unfold deM
  split
  · rename_i h; rw [decide_eq_true h]
  · rename_i h; rw [decide_eq_false h]
/-- Player 0 wins exactly where the measure is not top. -/
theorem mea_win {g : Gm} (hV : Valid g) {v : Nat} (hv : v < g.own.length) : meaV g v < rpr (mnN g.pri 61) ↔ (winA g).getD v 0 = 0 := by
  have hG := gok hV
  obtain ⟨h1, c, h2, h3⟩ := win_sol hV
  exact least_win (odn_ods hG) odn_odd hG.pl hG.row (fun v hv => (hG.len v hv).1) hG.own (fun v hv => (hG.pri v hv).1) h1 h2 h3 hv
theorem mea_top {g : Gm} (hV : Valid g) {v : Nat} (hv : v < g.own.length) : (meaF g v).1 = decide ((winA g).getD v 0 = 1) := by
  have hG := gok hV
  have h1 := mea_win hV hv
  have h2 := mea_bd hG hv
  have h3 := (win_sol hV).1 v hv
  rw [meaF_eq, deM_fst]
  by_cases h : (winA g).getD v 0 = 1
  · rw [decide_eq_true h, decide_eq_true]
    have : ¬ meaV g v < rpr (mnN g.pri 61) := fun hl => by have := h1.1 hl; omega
    omega
  · rw [decide_eq_false h, decide_eq_false]
    have := h1.2 (by omega)
    omega
theorem mea_fit {g : Gm} (hG : GOk g) {v : Nat} (hv : v < g.own.length) : okM (mnN g.pri 61) (meaF g v) ∧ enM (mnN g.pri 61) (meaF g v) = meaV g v := by
  have := en_de (many := mnN g.pri 61) mnN_pos (mea_bd hG hv).1 (mea_bd hG hv).2
  exact ⟨this.2, this.1⟩
end
end Go.Proofs.Ytgminhedbeblpaa.Cal
namespace Go.Proofs.Ytgminhedbeblpaa.Cal
section
open Go Pl
theorem Rch.mapD {E E' : Nat → Nat → Prop} {D : Nat → Prop} {f : Nat → Nat} (h : ∀ a b, D a → E a b → E' (f a) (f b) ∧ D b) {a b : Nat} (hr : Rch E a b) (ha : D a) : Rch E' (f a) (f b) ∧ D b := by
  induction hr with
  | refl => exact ⟨.refl _, ha⟩
  | step _ e ih => exact ⟨.step ih.1 (h _ _ ih.2 e).1, (h _ _ ih.2 e).2⟩
theorem kp_get {k : List Bool} {v : Nat} (h : k.getD v false = true) : ∀ {n : Nat}, v < n → (kp k v).length < (kp k n).length ∧ (kp k n).getD (kp k v).length 0 = v
  | 0, hv => absurd hv (Nat.not_lt_zero v)
  | n + 1, hv => by
    rw [kp_succ]
    by_cases e : v = n
    · subst e
      rw [if_pos h]
      refine ⟨by simp, ?_⟩
      rw [List.getD_eq_getElem?_getD, List.getElem?_append_right (Nat.le_refl _), Nat.sub_self]; rfl
    · obtain ⟨h1, h2⟩ := kp_get h (n := n) (by omega)
      split
      · refine ⟨by rw [List.length_append, List.length_singleton]; omega, ?_⟩
        rw [List.getD_eq_getElem?_getD, List.getElem?_append_left h1, ← List.getD_eq_getElem?_getD]; exact h2
      · exact ⟨h1, h2⟩
theorem kp_at {k : List Bool} {n i : Nat} (h : i < (kp k n).length) : (kp k n).getD i 0 < n ∧ k.getD ((kp k n).getD i 0) false = true := by
  have hm : (kp k n).getD i 0 ∈ kp k n := by
    rw [List.getD_eq_getElem?_getD, List.getElem?_eq_getElem h]; exact List.getElem_mem h
  have := List.mem_filter.1 hm
  exact ⟨List.mem_range.1 this.1, this.2⟩
theorem map_getD {α : Type} {f : Nat → α} {l : List Nat} {i : Nat} {d : α} (h : i < l.length) : (l.map f).getD i d = f (l.getD i 0) := by
  simp [List.getD_eq_getElem?_getD, h]
theorem map_getDI {f : Int → Int} {l : List Int} {i : Nat} (h : i < l.length) : (l.map f).getD i 0 = f (l.getD i 0) := by
  simp [List.getD_eq_getElem?_getD, h]
/-- The positions that p claims to win. -/
def selL (g : Gm) (W : List Int) (p : Int) : List Bool := (List.range g.own.length).map fun v => decide (W.getD v 0 = p)
theorem sel_iff {g : Gm} {W : List Int} {p : Int} {v : Nat} (hv : v < g.own.length) : (selL g W p).getD v false = true ↔ W.getD v 0 = p := by
  simp [selL, List.getD_eq_getElem?_getD, hv]
def nmF (k : List Bool) (v : Nat) : Int := if k.getD v false = true then ((kp k v).length : Int) else -1
/-- Where a play may go on. -/
def nxF (g : Gm) (C : List Int) (p : Int) (v : Nat) : List Int := if g.own.getD v 0 = p then [C.getD v 0] else g.nxt.getD v []
def folG (g : Gm) (W C : List Int) (p : Int) : Gm := ⟨(kp (selL g W p) g.own.length).map fun v => g.own.getD v 0, (kp (selL g W p) g.own.length).map fun v => g.pri.getD v 0, (kp (selL g W p) g.own.length).map fun v => (nxF g C p v).map fun t => nmF (selL g W p) t.toNat⟩
open Classical in
/-- Whether no play leaves the positions that p claims. -/
noncomputable def cloB (g : Gm) (W C : List Int) (p : Int) : Bool := decide (∀ v, v < g.own.length → W.getD v 0 = p → ∀ t, t ∈ nxF g C p v → W.getD t.toNat 0 = p)
open Classical in
noncomputable def claimB (g : Gm) (W C : List Int) : Bool := decide (W.length = g.own.length ∧ C.length = g.own.length ∧ ∀ v, v < g.own.length → (W.getD v 0 = 0 ∨ W.getD v 0 = 1) ∧ (g.own.getD v 0 = W.getD v 0 → C.getD v 0 ∈ g.nxt.getD v []) ∧ (g.own.getD v 0 ≠ W.getD v 0 → C.getD v 0 = -1))
noncomputable def slP (g : Gm) (W C : List Int) (p : Int) : Bool := cloB g W C p && !(aloneL (folG g W C p) (1 - p)).any id
noncomputable def solB (g : Gm) (W C : List Int) : Bool := claimB g W C && slP g W C 0 && slP g W C 1
theorem mem_ix {l : List Int} {t : Int} (h : t ∈ l) : ∃ j, j < l.length ∧ l.getD j 0 = t := by
  obtain ⟨j, hj, e⟩ := List.getElem_of_mem h
  exact ⟨j, hj, by rw [List.getD_eq_getElem?_getD, List.getElem?_eq_getElem hj, Option.getD_some]; exact e⟩
theorem nxF_bd {g : Gm} (hG : GOk g) {W C : List Int} {p : Int} (hc : ∀ v, v < g.own.length → W.getD v 0 = p → g.own.getD v 0 = p → C.getD v 0 ∈ g.nxt.getD v []) {v : Nat} (hv : v < g.own.length) (hw : W.getD v 0 = p) {t : Int} (ht : t ∈ nxF g C p v) :
    t ∈ g.nxt.getD v [] ∧ 0 ≤ t ∧ t < g.own.length := by
  have hm : t ∈ g.nxt.getD v [] := by
    unfold nxF at ht
    split at ht
    · rename_i h; rw [List.mem_singleton.1 ht]; exact hc v hv hw h
    · exact ht
  obtain ⟨j, hj, e⟩ := mem_ix hm
  have := hG.at' v hv j hj
  rw [e] at this
  exact ⟨hm, this⟩
/-- The game that is left is valid. -/
theorem fol_valid {g : Gm} (hV : Valid g) {W C : List Int} {p : Int} (hc : ∀ v, v < g.own.length → W.getD v 0 = p → g.own.getD v 0 = p → C.getD v 0 ∈ g.nxt.getD v []) (hcl : cloB g W C p = true) : Valid (folG g W C p) := by
  have hG := gok hV
  have hcl := of_decide_eq_true hcl
  have hl : (folG g W C p).n = (kp (selL g W p) g.own.length).length := List.length_map ..
  refine ⟨?_, ?_, ?_, fun i hi => ?_⟩
  · rw [hl]; exact Nat.le_trans kp_len hG.n
  · rw [hl]; exact List.length_map ..
  · rw [hl]; exact List.length_map ..
  rw [hl] at hi
  obtain ⟨h1, h2⟩ := kp_at hi
  have e1 : (folG g W C p).o i = g.own.getD ((kp (selL g W p) g.own.length).getD i 0) 0 := map_getD hi
  have e2 : (folG g W C p).p i = g.pri.getD ((kp (selL g W p) g.own.length).getD i 0) 0 := map_getD hi
  have e3 : (folG g W C p).x i = (nxF g C p ((kp (selL g W p) g.own.length).getD i 0)).map fun t => nmF (selL g W p) t.toNat := map_getD hi
  have hn2 := hl
  generalize (kp (selL g W p) g.own.length).getD i 0 = v at *
  have hw := (sel_iff h1).1 h2
  have hsel : ∀ t, t ∈ nxF g C p v → (selL g W p).getD t.toNat false = true ∧ t.toNat < g.own.length := fun t ht => by
    have hb := nxF_bd hG hc h1 hw ht
    have hlt : t.toNat < g.own.length := by omega
    exact ⟨(sel_iff hlt).2 (hcl v h1 hw t ht), hlt⟩
  have hlen : 1 ≤ (nxF g C p v).length ∧ (nxF g C p v).length ≤ 64 := by
    unfold nxF
    split
    · exact ⟨Nat.le_refl _, by show 1 ≤ 64; decide⟩
    · exact hG.len v h1
  obtain ⟨⟨a1, a2, a3, a4, _⟩, hrow⟩ := hV.2.2.2 v h1
  unfold posOK
  rw [e1, e2, e3, List.length_map]
  refine ⟨⟨a1, a2, a3, a4, hlen⟩, fun j hj => ?_⟩
  have hat : ∀ j, j < (nxF g C p v).length → (nxF g C p v).getD j 0 ∈ nxF g C p v := fun j hj => by
    rw [List.getD_eq_getElem?_getD, List.getElem?_eq_getElem hj]; exact List.getElem_mem hj
  have hnum : ∀ j, j < (nxF g C p v).length → ((nxF g C p v).map fun t => nmF (selL g W p) t.toNat).getD j 0 = ((kp (selL g W p) ((nxF g C p v).getD j 0).toNat).length : Int) := fun j hj => by
    rw [map_getDI hj]
    unfold nmF
    rw [if_pos (hsel _ (hat j hj)).1]
  refine ⟨?_, ?_, fun h0 => ?_⟩
  · rw [hnum j hj]; omega
  · rw [hnum j hj, hn2]
    have := (kp_get (hsel _ (hat j hj)).1 (hsel _ (hat j hj)).2).1
    omega
  · rw [hnum j hj, hnum (j - 1) (by omega)]
    have hlt : ((nxF g C p v).getD (j - 1) 0).toNat < ((nxF g C p v).getD j 0).toNat := by
      have b1 := nxF_bd hG hc h1 hw (hat j hj)
      have b2 := nxF_bd hG hc h1 hw (hat (j - 1) (by omega))
      have : (nxF g C p v).getD (j - 1) 0 < (nxF g C p v).getD j 0 := by
        by_cases e : g.own.getD v 0 = p
        · have : (nxF g C p v).length = 1 := by unfold nxF; rw [if_pos e]; rfl
          omega
        · have e4 : nxF g C p v = g.nxt.getD v [] := by unfold nxF; rw [if_neg e]
          rw [e4] at hj ⊢
          exact (hrow j hj).2.2 h0
      omega
    have := (kp_get (hsel _ (hat (j - 1) (by omega))).1 hlt).1
    omega
/-- What the reference checks of p's positions is that p wins them. -/
theorem sl_iff {g : Gm} (hV : Valid g) {W C : List Int} {p : Int} (hp : p = 0 ∨ p = 1) (hc : ∀ v, v < g.own.length → W.getD v 0 = p → g.own.getD v 0 = p → C.getD v 0 ∈ g.nxt.getD v []) :
    slP g W C p = true ↔ Sol (fun v => g.own.getD v 0) (fun v => g.pri.getD v 0) (rws g.nxt) (fun v => v < g.own.length) (fun v => W.getD v 0) (fun v => (C.getD v 0).toNat) p := by
  have hG := gok hV
  have hn : (folG g W C p).own.length = (kp (selL g W p) g.own.length).length := List.length_map ..
  have hpr : ∀ i, i < (kp (selL g W p) g.own.length).length → (folG g W C p).pri.getD i 0 = g.pri.getD ((kp (selL g W p) g.own.length).getD i 0) 0 := fun i hi => map_getD hi
  have hrw : ∀ i, i < (kp (selL g W p) g.own.length).length → rws (folG g W C p).nxt i = (nxF g C p ((kp (selL g W p) g.own.length).getD i 0)).map fun t => (nmF (selL g W p) t.toNat).toNat := fun i hi => by
    have : (folG g W C p).nxt.getD i [] = (nxF g C p ((kp (selL g W p) g.own.length).getD i 0)).map fun t => nmF (selL g W p) t.toNat := map_getD hi
    unfold rws
    rw [this, List.map_map]; rfl
  have hnx : ∀ v t, t ∈ nxF g C p v → (g.own.getD v 0 = p → t.toNat = (C.getD v 0).toNat) ∧ (g.own.getD v 0 ≠ p → t.toNat ∈ rws g.nxt v) := fun v t ht => by
    unfold nxF at ht
    split at ht
    · rename_i h; rw [List.mem_singleton.1 ht]; exact ⟨fun _ => rfl, fun h2 => absurd h h2⟩
    · rename_i h; exact ⟨fun h2 => absurd h2 h, fun _ => List.mem_map.2 ⟨t, ht, rfl⟩⟩
  have hxn : ∀ v t, ((g.own.getD v 0 = p → t = (C.getD v 0).toNat) ∧ (g.own.getD v 0 ≠ p → t ∈ rws g.nxt v)) → ∃ s, s ∈ nxF g C p v ∧ s.toNat = t := fun v t h => by
    unfold nxF
    split
    · rename_i e; exact ⟨_, List.mem_singleton.2 rfl, (h.1 e).symm⟩
    · rename_i e; obtain ⟨s, h1, h2⟩ := List.mem_map.1 (h.2 e); exact ⟨s, h1, h2⟩
  have hany : (!(aloneL (folG g W C p) (1 - p)).any id) = true ↔ ∀ i, i < (kp (selL g W p) g.own.length).length → ¬ alone (folG g W C p) (1 - p) i := by
    rw [Bool.not_eq_true', List.any_eq_false]
    constructor
    · intro h i hi ha
      have h1 := (aloneL_getD (g := folG g W C p) (by rw [hn]; exact hi)).2 ha
      have hlt : i < (aloneL (folG g W C p) (1 - p)).length := by simp [aloneL, hn, hi]
      rw [List.getD_eq_getElem?_getD, List.getElem?_eq_getElem hlt, Option.getD_some] at h1
      exact h _ (List.getElem_mem hlt) (by rw [h1]; rfl)
    · intro h b hb hb2
      obtain ⟨i, hi, e⟩ := List.getElem_of_mem hb
      have hi2 : i < (kp (selL g W p) g.own.length).length := by simpa [aloneL, hn] using hi
      refine h i hi2 ((aloneL_getD (g := folG g W C p) (by rw [hn]; exact hi2)).1 ?_)
      rw [List.getD_eq_getElem?_getD, List.getElem?_eq_getElem hi, Option.getD_some, e]
      exact hb2
  unfold slP
  rw [Bool.and_eq_true, hany]
  constructor
  · rintro ⟨hcl, hno⟩
    have hcl := of_decide_eq_true hcl
    have hidx : ∀ v, v < g.own.length → W.getD v 0 = p → (kp (selL g W p) v).length < (kp (selL g W p) g.own.length).length ∧ (kp (selL g W p) g.own.length).getD (kp (selL g W p) v).length 0 = v := fun v hv hw => kp_get ((sel_iff hv).2 hw) hv
    refine ⟨fun v hv hw ho => ?_, fun v hv hw ho t ht hk => ?_, fun w hk hw hpw hcy => ?_⟩
    · have h1 := hc v hv hw ho
      have hm : C.getD v 0 ∈ nxF g C p v := by unfold nxF; rw [if_pos ho]; exact List.mem_singleton.2 rfl
      have hb := nxF_bd hG hc hv hw hm
      exact ⟨List.mem_map.2 ⟨_, h1, rfl⟩, by omega, hcl v hv hw _ hm⟩
    · obtain ⟨s, h1, h2⟩ := hxn v t ⟨fun h => absurd h ho, fun _ => ht⟩
      rw [← h2]; exact hcl v hv hw s h1
    · obtain ⟨t, ht, htw⟩ := hcy
      have hE : ∀ a b, True → Low (Stp (fun v => g.own.getD v 0) (rws g.nxt) (fun v => v < g.own.length) (fun v => W.getD v 0) (fun v => (C.getD v 0).toNat) p) (fun v => g.pri.getD v 0) w a b → Ed (rws (folG g W C p).nxt) (okP (folG g W C p).pri (g.pri.getD w 0)) (kp (selL g W p) a).length (kp (selL g W p) b).length ∧ True := fun a b _ hab => by
        obtain ⟨⟨⟨h1, h1w⟩, h2, h3, h4⟩, h5⟩ := hab
        obtain ⟨s, hs1, hs2⟩ := hxn a b ⟨h3, h4⟩
        obtain ⟨i1, i2⟩ := hidx a h1 h1w
        have hbw : W.getD b 0 = p := by rw [← hs2]; exact hcl a h1 h1w s hs1
        obtain ⟨j1, j2⟩ := hidx b h2 hbw
        refine ⟨⟨?_, ?_⟩, trivial⟩
        · rw [hrw _ i1, i2]
          refine List.mem_map.2 ⟨s, hs1, ?_⟩
          rw [hs2]
          unfold nmF
          rw [if_pos ((sel_iff h2).2 hbw)]; rfl
        · show (folG g W C p).pri.getD _ 0 ≤ _
          rw [hpr _ j1, j2]; exact h5
      obtain ⟨i1, i2⟩ := hidx w hk hw
      refine hno _ i1 ⟨_, by rw [hn]; exact i1, ⟨?_, (kp (selL g W p) t).length, ?_, ?_⟩, .refl _⟩
      · rw [hpr _ i1, i2]
        have := mod2 (g.pri.getD w 0)
        have hpw : ¬ g.pri.getD w 0 % 2 = p := hpw
        omega
      · rw [hpr _ i1, i2]; exact (hE w t trivial ht).1
      · rw [hpr _ i1, i2]; exact (Rch.mapD (D := fun _ => True) hE htw trivial).1
  · intro hS
    have hcl : ∀ v, v < g.own.length → W.getD v 0 = p → ∀ t, t ∈ nxF g C p v → W.getD t.toNat 0 = p := fun v hv hw t ht => by
      have hb := nxF_bd hG hc hv hw ht
      have := hnx v t ht
      by_cases e : g.own.getD v 0 = p
      · rw [this.1 e]; exact (hS.mine v hv hw e).2.2
      · exact hS.his v hv hw e t.toNat (this.2 e) (by omega)
    refine ⟨decide_eq_true hcl, fun i hi => ?_⟩
    rintro ⟨w, hwn, ⟨h1, t, ht, htw⟩, h2⟩
    rw [hn] at hwn
    have hE : ∀ a b, a < (kp (selL g W p) g.own.length).length → Ed (rws (folG g W C p).nxt) (okP (folG g W C p).pri ((folG g W C p).pri.getD w 0)) a b → Low (Stp (fun v => g.own.getD v 0) (rws g.nxt) (fun v => v < g.own.length) (fun v => W.getD v 0) (fun v => (C.getD v 0).toNat) p) (fun v => g.pri.getD v 0) ((kp (selL g W p) g.own.length).getD w 0) ((kp (selL g W p) g.own.length).getD a 0) ((kp (selL g W p) g.own.length).getD b 0) ∧ b < (kp (selL g W p) g.own.length).length := fun a b ha hab => by
      obtain ⟨h3, h4⟩ := hab
      rw [hrw a ha] at h3
      obtain ⟨s, hs1, hs2⟩ := List.mem_map.1 h3
      obtain ⟨k1, k2⟩ := kp_at ha
      have kw := (sel_iff k1).1 k2
      have hb := nxF_bd hG hc k1 kw hs1
      have hsn : s.toNat < g.own.length := by omega
      have hsw := hcl _ k1 kw s hs1
      have hsk := (sel_iff (g := g) (W := W) (p := p) hsn).2 hsw
      have hbi : b = (kp (selL g W p) s.toNat).length := by
        rw [← hs2]; unfold nmF; rw [if_pos hsk]; rfl
      obtain ⟨j1, j2⟩ := kp_get hsk hsn
      rw [← hbi] at j1 j2
      have h4 : (folG g W C p).pri.getD b 0 ≤ (folG g W C p).pri.getD w 0 := h4
      rw [hpr _ j1, hpr _ hwn] at h4
      refine ⟨⟨⟨⟨k1, kw⟩, ?_, ?_, ?_⟩, h4⟩, j1⟩
      · rw [j2]; exact hsn
      · rw [j2]; exact (hnx _ s hs1).1
      · rw [j2]; exact (hnx _ s hs1).2
    obtain ⟨k1, k2⟩ := kp_at hwn
    have kw := (sel_iff k1).1 k2
    have ht2 := hE w t hwn ht
    refine hS.cyc _ k1 kw (fun h3 => ?_) ⟨_, ht2.1, (Rch.mapD (D := fun a => a < (kp (selL g W p) g.own.length).length) hE htw ht2.2).1⟩
    have h1 : (folG g W C p).pri.getD w 0 % 2 = 1 - p := h1
    rw [hpr _ hwn] at h1
    have h3 : g.pri.getD ((kp (selL g W p) g.own.length).getD w 0) 0 % 2 = p := h3
    omega
theorem claim_c {g : Gm} {W C : List Int} {p : Int} (h : claimB g W C = true) : ∀ v, v < g.own.length → W.getD v 0 = p → g.own.getD v 0 = p → C.getD v 0 ∈ g.nxt.getD v [] := fun v hv hw ho => ((of_decide_eq_true h).2.2 v hv).2.1 (ho.trans hw.symm)
/-- A claim is a solution exactly if both players win by it where they claim to. -/
theorem solB_iff {g : Gm} (hV : Valid g) {W C : List Int} : solB g W C = true ↔ claimB g W C = true ∧ ∀ p, p = 0 ∨ p = 1 → Sol (fun v => g.own.getD v 0) (fun v => g.pri.getD v 0) (rws g.nxt) (fun v => v < g.own.length) (fun v => W.getD v 0) (fun v => (C.getD v 0).toNat) p := by
  unfold solB
  rw [Bool.and_eq_true, Bool.and_eq_true]
  constructor
  · rintro ⟨⟨h1, h2⟩, h3⟩
    refine ⟨h1, fun p hp => ?_⟩
    rcases hp with rfl | rfl
    · exact (sl_iff hV (.inl rfl) (claim_c h1)).1 h2
    · exact (sl_iff hV (.inr rfl) (claim_c h1)).1 h3
  · rintro ⟨h1, h2⟩
    exact ⟨⟨h1, (sl_iff hV (.inl rfl) (claim_c h1)).2 (h2 0 (.inl rfl))⟩, (sl_iff hV (.inr rfl) (claim_c h1)).2 (h2 1 (.inr rfl))⟩
end
end Go.Proofs.Ytgminhedbeblpaa.Cal
namespace Go.Proofs.Ytgminhedbeblpaa.Cal
open Go Pl
noncomputable def spCopy : Nat → Option Spec
  | 32 => some cloneS
  | _ => none
theorem spCopy_ok : SpOK Try.prog spCopy := by
  intro f S h
  unfold spCopy at h
  split at h
  · cases h; exact clone_ok
  · cases h
theorem cp_next {x : List (List Int)} {i : Nat} (h : i < x.length) : (x.take i ++ List.replicate (x.length - i) []).set i (x.getD i []) = x.take (i + 1) ++ List.replicate (x.length - (i + 1)) [] := by
  obtain ⟨n, hn⟩ : ∃ n, x.length - i = n + 1 := ⟨x.length - i - 1, by omega⟩
  rw [hn, show x.length - (i + 1) = n from by omega, List.replicate_succ, List.set_append_right _ _ (by simp; omega), List.length_take, Nat.min_eq_left (by omega), Nat.sub_self, List.set_cons_zero, take1 h, List.append_assoc]
  rfl
set_option maxRecDepth 4000 in
set_option maxHeartbeats 4000000 in
theorem copy_fg {o p : List Int} {x : List (List Int)} (ho : o.length ≤ 1000000) (hp : p.length ≤ 1000000) (hx : x.length ≤ 1000000) (hr : ∀ v, v < x.length → (x.getD v []).length ≤ 1000000) :
    FG Try.prog 36 [.agg (.cons (.roI o) (.cons (.roI p) (.cons (.roII x) .nil)))] [] 0 fun g => g = ⟨3, .agg (.cons (.own 0) (.cons (.own 1) (.cons (.own 2) .nil))), [(0, some (.ints o)), (1, some (.ints p)), (2, some (.rowsR x))]⟩ := by
  refine fg_of htb (fn := Try.f36) (by kernel_rfl) (by kernel_rfl) rfl (Nat.le_of_ble_eq_true rfl) fun hl => ?_
  simp only [lenP, mkL, lim] at hl
  repeat' first
    | with_reducible first | refine awp_seq ?_ | refine awp_block ?_ | refine next_then ?_ | refine next_block ?_ | refine exit_then ?_ | refine ret_then ?_ | refine ret_block ?_ | refine exit_here ?_ | refine awp_exit ?_ | refine awp_ret ?_ | refine awp_skip ?_ | refine awp_label ?_ | refine next_noGoto ?_ | refine ret_noGoto ?_ | refine exit_noGoto ?_ | refine awp_scope ?_
    | ((with_reducible refine exit_past ?_ ?_); exact rfl)
    | ((with_reducible refine isCond ?_); refine awp_condO rfl ?_ ?_ <;> intro hb <;> (try simp only [zH] at hb))
    | ((with_reducible refine isRegS 1 ?_ ?_); (· exact rfl); (first | refine awp_textM htb hmz spCopy_ok (fun _ => false) rfl rfl ?_ | refine awp_drawM hmo htb hmz spCopy_ok (fun _ => false) rfl rfl (by kernel_rfl) ?_); intro m' e' l' ob h; simp only [zE0, zE1, zE2, zE3, zE4, zE5, evp, evx, ev1, evLoad, evStore, evBin, isBoolK, forall_const, z38, tb, Nat.reduceAdd, Nat.reduceSub, Nat.reduceMul, Nat.reduceEqDiff, Nat.reduceLeDiff, Nat.reduceLT, Nat.reduceBEq, Nat.reduceBNe, ↓reduceIte, reduceIte, spCopy, cloneS] at h; obtain ⟨rfl, rfl, rfl, rfl⟩ := h; refine ⟨?_, ?_⟩)
    | ((with_reducible refine Ob.mk ?_); first | exact trivial | (intros; omega) | ((repeat' first | apply And.intro | (intro hg; have hg' := hg; try simp only [zH] at hg')) <;> first | assumption | omega | (simp only [zH]; omega)))
  (refine awp_drawM hmo htb hmz spCopy_ok (fun i => Nat.beq i 11) rfl rfl (by kernel_rfl) ?_; intro m' e' l' ob h; simp only [zE0, zE1, zE2, zE3, zE4, zE5, evp, evx, ev1, evLoad, evStore, evBin, isBoolK, forall_const, z38, tb, Nat.reduceAdd, Nat.reduceSub, Nat.reduceMul, Nat.reduceEqDiff, Nat.reduceLeDiff, Nat.reduceLT, Nat.reduceBEq, Nat.reduceBNe, ↓reduceIte, reduceIte, spCopy, cloneS] at h; obtain ⟨rfl, rfl, rfl, rfl⟩ := h; refine ⟨?_, ?_⟩)
  · first | ((with_reducible refine Ob.mk ?_); first | exact trivial | (intros; omega) | ((repeat' first | apply And.intro | (intro hg; have hg' := hg; try simp only [zH] at hg')) <;> first | assumption | omega | (simp only [zH]; omega))) | skip
  repeat' first
    | with_reducible first | refine awp_seq ?_ | refine awp_block ?_ | refine next_then ?_ | refine next_block ?_ | refine exit_then ?_ | refine ret_then ?_ | refine ret_block ?_ | refine exit_here ?_ | refine awp_exit ?_ | refine awp_ret ?_ | refine awp_skip ?_ | refine awp_label ?_ | refine next_noGoto ?_ | refine ret_noGoto ?_ | refine exit_noGoto ?_ | refine awp_scope ?_
    | ((with_reducible refine exit_past ?_ ?_); exact rfl)
    | ((with_reducible refine isCond ?_); refine awp_condO rfl ?_ ?_ <;> intro hb <;> (try simp only [zH] at hb))
    | ((with_reducible refine isReg ?_); (first | refine awp_textM htb hmz spCopy_ok (fun _ => false) rfl rfl ?_ | refine awp_drawM hmo htb hmz spCopy_ok (fun _ => false) rfl rfl (by kernel_rfl) ?_); intro m' e' l' ob h; simp only [zE0, zE1, zE2, zE3, zE4, zE5, evp, evx, ev1, evLoad, evStore, evBin, isBoolK, forall_const, z38, tb, Nat.reduceAdd, Nat.reduceSub, Nat.reduceMul, Nat.reduceEqDiff, Nat.reduceLeDiff, Nat.reduceLT, Nat.reduceBEq, Nat.reduceBNe, ↓reduceIte, reduceIte, spCopy, cloneS] at h; obtain ⟨rfl, rfl, rfl, rfl⟩ := h; refine ⟨?_, ?_⟩)
    | ((with_reducible refine Ob.mk ?_); first | exact trivial | (intros; omega) | ((repeat' first | apply And.intro | (intro hg; have hg' := hg; try simp only [zH] at hg')) <;> first | assumption | omega | (simp only [zH]; omega)))
  refine awp_loopC (τ := Nat) (fun i => i ≤ x.length) (fun i => ⟨31, [(32, .int .i64 i), (31, .int .i64 x.length), (30, .roII x), (3, .own 15), (2, .own 1), (1, .rop (.agg (.cons (.roI o) (.cons (.roI p) (.cons (.roII x) .nil)))))],
    [(1, some (.box (.agg (.cons (.cst (.slice none 0 0)) (.cons (.cst (.slice none 0 0)) (.cons (.cst (.slice none 0 0)) .nil)))))), (5, some (.ints o)), (9, some (.ints p)), (13, some (.rowsR (x.take i ++ List.replicate (x.length - i) []))), (15, some (.box (.agg (.cons (.own 5) (.cons (.own 9) (.cons (.own 13) .nil))))))], []⟩) (fun i => x.length - i) 0 [] ?_ (Nat.zero_le _) ?_
  · refine ⟨rfl, ?_, ?_⟩ <;> simp only [zE0, zE1, zE2, zE3, zE4, zE5, evp, evx, ev1, evLoad, evStore, evBin, isBoolK, forall_const, z38, tb, Nat.reduceAdd, Nat.reduceSub, Nat.reduceMul, Nat.reduceEqDiff, Nat.reduceLeDiff, Nat.reduceLT, Nat.reduceBEq, Nat.reduceBNe, ↓reduceIte, reduceIte, spCopy, cloneS, zI]
    exact ⟨cpL_all (by simp), cpL_all (by simp), by simp⟩
  intro i hi
  have hlen : (x.take i ++ List.replicate (x.length - i) []).length = x.length := by simp; omega
  repeat' first
    | with_reducible first | refine awp_seq ?_ | refine awp_block ?_ | refine next_then ?_ | refine next_block ?_ | refine exit_then ?_ | refine ret_then ?_ | refine ret_block ?_ | refine exit_here ?_ | refine awp_exit ?_ | refine awp_ret ?_ | refine awp_skip ?_ | refine awp_label ?_ | refine next_noGoto ?_ | refine ret_noGoto ?_ | refine exit_noGoto ?_ | refine awp_scope ?_
    | ((with_reducible refine exit_past ?_ ?_); exact rfl)
    | ((with_reducible refine isCond ?_); refine awp_condO rfl ?_ ?_ <;> intro hb <;> (try simp only [zH] at hb))
    | ((with_reducible refine isReg ?_); (first | refine awp_textM htb hmz spCopy_ok (fun _ => false) rfl rfl ?_ | refine awp_drawM hmo htb hmz spCopy_ok (fun _ => false) rfl rfl (by kernel_rfl) ?_); intro m' e' l' ob h; simp only [zE0, zE1, zE2, zE3, zE4, zE5, evp, evx, ev1, evLoad, evStore, evBin, isBoolK, forall_const, z38, tb, Nat.reduceAdd, Nat.reduceSub, Nat.reduceMul, Nat.reduceEqDiff, Nat.reduceLeDiff, Nat.reduceLT, Nat.reduceBEq, Nat.reduceBNe, ↓reduceIte, reduceIte, spCopy, cloneS] at h; obtain ⟨rfl, rfl, rfl, rfl⟩ := h; refine ⟨?_, ?_⟩)
    | ((with_reducible refine Ob.mk ?_); first | exact trivial | (intros; omega) | ((repeat' first | apply And.intro | (intro hg; have hg' := hg; try simp only [zH] at hg')) <;> first | assumption | omega | (simp only [zH]; omega)))
  · rw [hlen]; exact Ob.mk ⟨⟨by have := hr i (by omega); omega, by omega, by omega⟩, by omega⟩
  · refine back (i + 1) [] ?_ (by omega) (by omega)
    (refine ⟨rfl, ?_, ?_⟩ <;> simp only [zE0, zE1, zE2, zE3, zE4, zE5, evp, evx, ev1, evLoad, evStore, evBin, isBoolK, forall_const, z38, tb, Nat.reduceAdd, Nat.reduceSub, Nat.reduceMul, Nat.reduceEqDiff, Nat.reduceLeDiff, Nat.reduceLT, Nat.reduceBEq, Nat.reduceBNe, ↓reduceIte, reduceIte, spCopy, cloneS, zI])
    exact cp_next (by omega)
  · have hi' : i = x.length := by omega
    subst hi'
    refine fin_ret rfl rfl (gq_of (⟨3, .agg (.cons (.own 0) (.cons (.own 1) (.cons (.own 2) .nil))), [(0, some (.ints o)), (1, some (.ints p)), (2, some (.rowsR x))]⟩) ([(0, 5), (1, 9), (2, 13)]) rfl rfl (imp_eq rfl) ?_)
    simp only [grR, zE0, zE1, zE2, zE3, zE4, zE5, evp, evx, ev1, evLoad, evStore, evBin, isBoolK, forall_const, z38, tb, Nat.reduceAdd, Nat.reduceSub, Nat.reduceMul, Nat.reduceEqDiff, Nat.reduceLeDiff, Nat.reduceLT, Nat.reduceBEq, Nat.reduceBNe, ↓reduceIte, reduceIte, spCopy, cloneS]
    rw [Nat.sub_self, List.replicate_zero, List.append_nil]
end Go.Proofs.Ytgminhedbeblpaa.Cal
namespace Go.Proofs.Ytgminhedbeblpaa.Cal
open Go Pl
/-- The first i, turned. -/
def du (f : Int → Int) (xs : List Int) (i : Nat) : List Int := (xs.take i).map f ++ xs.drop i
theorem du_len {f : Int → Int} {xs : List Int} {i : Nat} : (du f xs i).length = xs.length := by simp [du]; omega
theorem du_getD {f : Int → Int} {xs : List Int} {i : Nat} (h : i < xs.length) : (du f xs i).getD i 0 = xs.getD i 0 := by
  have hl : ((xs.take i).map f).length = i := by simp; omega
  simp only [du, List.getD_eq_getElem?_getD]
  rw [List.getElem?_append_right (by omega), hl, Nat.sub_self, List.getElem?_drop, Nat.add_zero]
theorem du_next {f : Int → Int} {xs : List Int} {i : Nat} (h : i < xs.length) : (du f xs i).set i (f (xs.getD i 0)) = du f xs (i + 1) := by
  have hl : ((xs.take i).map f).length = i := by simp; omega
  have hd : xs.drop i = xs.getD i 0 :: xs.drop (i + 1) := by
    rw [List.drop_eq_getElem_cons h, List.getD_eq_getElem?_getD, List.getElem?_eq_getElem h]; rfl
  unfold du
  rw [List.set_append_right _ _ (by omega), hl, Nat.sub_self, hd, List.set_cons_zero, take1 (d := 0) h, List.map_append, List.append_assoc]
  rfl
theorem du_all {f : Int → Int} {xs : List Int} : du f xs xs.length = xs.map f := by simp [du]
theorem du_zero {f : Int → Int} {xs : List Int} : du f xs 0 = xs := by simp [du]
noncomputable def dualR (g : Gm) : Gm × Int :=
  if validB g = true then (if ∃ v, v < g.n ∧ g.pri.getD v 0 = 60 then (⟨[], [], []⟩, 3) else (⟨g.own.map fun o => 1 - o, g.pri.map fun p => p + 1, g.nxt⟩, 0)) else (⟨[], [], []⟩, 1)
noncomputable def dualS : Spec
  | [.agg (.cons (.roI o) (.cons (.roI p) (.cons (.roII x) .nil)))] => some ⟨True, .tup (.cons (gmA (dualR ⟨o, p, x⟩).1) (.cons (.int .i64 (dualR ⟨o, p, x⟩).2) .nil)), none⟩
  | _ => none
noncomputable def spDual : Nat → Option Spec
  | 29 => some validS
  | _ => none
theorem spDual_ok : SpOK Try.prog spDual := by
  intro f S h
  unfold spDual at h
  split at h
  · cases h; exact valid_ok
  · cases h
set_option maxRecDepth 4000 in
set_option maxHeartbeats 4000000 in
theorem dual_ok : FSpec Try.prog 15 dualS := by
  refine fspec_of htb (fn := Try.f15) (by kernel_rfl) (by kernel_rfl) rfl (fun args r hS => ?_) (fun args r hS hob hl => ?_)
  · unfold dualS at hS; split at hS <;> first | (cases hS; done) | (cases hS; exact Nat.le_of_ble_eq_true rfl)
  unfold dualS at hS
  split at hS
  case h_2 => cases hS
  rename_i o p x
  simp only [Option.some.injEq] at hS
  subst hS
  simp only [lenP, mkL, lim] at hl
  dsimp only at hob
  repeat' first
    | with_reducible first | refine awp_seq ?_ | refine awp_block ?_ | refine next_then ?_ | refine next_block ?_ | refine exit_then ?_ | refine ret_then ?_ | refine ret_block ?_ | refine exit_here ?_ | refine awp_exit ?_ | refine awp_ret ?_ | refine awp_skip ?_ | refine awp_label ?_ | refine next_noGoto ?_ | refine ret_noGoto ?_ | refine exit_noGoto ?_ | refine awp_scope ?_
    | ((with_reducible refine exit_past ?_ ?_); exact rfl)
    | ((with_reducible refine isCond ?_); refine awp_condO rfl ?_ ?_ <;> intro hb <;> (try simp only [zH] at hb))
    | ((with_reducible refine isRegS 3 ?_ ?_); (· exact rfl); (first | refine awp_textM htb hmz spDual_ok (fun _ => false) rfl rfl ?_ | refine awp_drawM hmo htb hmz spDual_ok (fun _ => false) rfl rfl (by kernel_rfl) ?_); intro m' e' l' ob h; simp only [zE0, zE1, zE2, zE3, zE4, zE5, evp, evx, ev1, evLoad, evStore, evBin, isBoolK, forall_const, z38, tb, Nat.reduceAdd, Nat.reduceSub, Nat.reduceMul, Nat.reduceEqDiff, Nat.reduceLeDiff, Nat.reduceLT, Nat.reduceBEq, Nat.reduceBNe, ↓reduceIte, reduceIte, spDual, validS] at h; obtain ⟨rfl, rfl, rfl, rfl⟩ := h; refine ⟨?_, ?_⟩)
    | ((with_reducible refine Ob.mk ?_); first | exact trivial | (intros; omega) | ((repeat' first | apply And.intro | (intro hg; have hg' := hg; try simp only [zH] at hg')) <;> first | assumption | omega | (simp only [zH]; omega)))
  · refine fin_ret rfl rfl (spec_imp rfl ?_ rfl)
    simp only [dualR, hb, Bool.false_eq_true, if_false]
    exact imp_tup (imp_cons (imp_agg (imp_cons imp_nilI (imp_cons imp_nilI (imp_cons imp_nilII (imp_eq rfl))))) (imp_eq rfl))
  have hV := validB_iff.1 hb
  obtain ⟨hn, hpl, hxl, hpos⟩ := id hV
  simp only [Gm.n] at hn hpl hxl
  refine awp_cut ([_]) ([_, _]) rfl rfl ?_
  refine awpL_text htb hmz spDual_ok (fun _ => false) rfl rfl rfl ?_; intro m' e' l' ob h; simp only [zE0, zE1, zE2, zE3, zE4, zE5, evp, evx, ev1, evLoad, evStore, evBin, isBoolK, forall_const, z38, tb, Nat.reduceAdd, Nat.reduceSub, Nat.reduceMul, Nat.reduceEqDiff, Nat.reduceLeDiff, Nat.reduceLT, Nat.reduceBEq, Nat.reduceBNe, ↓reduceIte, reduceIte, spDual, validS] at h; obtain ⟨rfl, rfl, rfl, rfl⟩ := h; refine ⟨?_, next_then ?_⟩
  · first | ((with_reducible refine Ob.mk ?_); first | exact trivial | (intros; omega) | ((repeat' first | apply And.intro | (intro hg; have hg' := hg; try simp only [zH] at hg')) <;> first | assumption | omega | (simp only [zH]; omega))) | skip
  refine awpL_callG ([]) (copy_fg (by omega) (by omega) (by omega) (fun v hv => by have := (hpos v (by simp only [Gm.n]; omega)).1; simp only [Gm.x] at this; omega)) rfl rfl rfl rfl rfl rfl rfl rfl rfl (by simp only [rinR, rhoC, zE0, zE1, zE2, zE3, zE4, zE5, evp, evx, ev1, evLoad, evStore, evBin, isBoolK, forall_const, z38, tb, Nat.reduceAdd, Nat.reduceSub, Nat.reduceMul, Nat.reduceEqDiff, Nat.reduceLeDiff, Nat.reduceLT, Nat.reduceBEq, Nat.reduceBNe, ↓reduceIte, reduceIte, spDual, validS]) ?_; intro gm gv gr hq m' e' l' h; simp only [GR.mk.injEq] at hq; obtain ⟨rfl, rfl, rfl⟩ := hq; simp only [rhoC, outR, renR, dels, zE0, zE1, zE2, zE3, zE4, zE5, evp, evx, ev1, evLoad, evStore, evBin, isBoolK, forall_const, z38, tb, Nat.reduceAdd, Nat.reduceSub, Nat.reduceMul, Nat.reduceEqDiff, Nat.reduceLeDiff, Nat.reduceLT, Nat.reduceBEq, Nat.reduceBNe, ↓reduceIte, reduceIte, spDual, validS] at h; obtain ⟨rfl, rfl, rfl⟩ := h; refine next_then ?_
  refine awpL_text htb hmz spDual_ok (fun _ => false) rfl rfl rfl ?_; intro m' e' l' ob h; simp only [zE0, zE1, zE2, zE3, zE4, zE5, evp, evx, ev1, evLoad, evStore, evBin, isBoolK, forall_const, z38, tb, Nat.reduceAdd, Nat.reduceSub, Nat.reduceMul, Nat.reduceEqDiff, Nat.reduceLeDiff, Nat.reduceLT, Nat.reduceBEq, Nat.reduceBNe, ↓reduceIte, reduceIte, spDual, validS] at h; obtain ⟨rfl, rfl, rfl, rfl⟩ := h; refine ⟨?_, ?_⟩
  · first | ((with_reducible refine Ob.mk ?_); first | exact trivial | (intros; omega) | ((repeat' first | apply And.intro | (intro hg; have hg' := hg; try simp only [zH] at hg')) <;> first | assumption | omega | (simp only [zH]; omega))) | skip
  repeat' first
    | with_reducible first | refine awp_seq ?_ | refine awp_block ?_ | refine next_then ?_ | refine next_block ?_ | refine exit_then ?_ | refine ret_then ?_ | refine ret_block ?_ | refine exit_here ?_ | refine awp_exit ?_ | refine awp_ret ?_ | refine awp_skip ?_ | refine awp_label ?_ | refine next_noGoto ?_ | refine ret_noGoto ?_ | refine exit_noGoto ?_ | refine awp_scope ?_
    | ((with_reducible refine exit_past ?_ ?_); exact rfl)
    | ((with_reducible refine isCond ?_); refine awp_condO rfl ?_ ?_ <;> intro hb <;> (try simp only [zH] at hb))
    | ((with_reducible refine isReg ?_); (first | refine awp_textM htb hmz spDual_ok (fun _ => false) rfl rfl ?_ | refine awp_drawM hmo htb hmz spDual_ok (fun _ => false) rfl rfl (by kernel_rfl) ?_); intro m' e' l' ob h; simp only [zE0, zE1, zE2, zE3, zE4, zE5, evp, evx, ev1, evLoad, evStore, evBin, isBoolK, forall_const, z38, tb, Nat.reduceAdd, Nat.reduceSub, Nat.reduceMul, Nat.reduceEqDiff, Nat.reduceLeDiff, Nat.reduceLT, Nat.reduceBEq, Nat.reduceBNe, ↓reduceIte, reduceIte, spDual, validS] at h; obtain ⟨rfl, rfl, rfl, rfl⟩ := h; refine ⟨?_, ?_⟩)
    | ((with_reducible refine Ob.mk ?_); first | exact trivial | (intros; omega) | ((repeat' first | apply And.intro | (intro hg; have hg' := hg; try simp only [zH] at hg')) <;> first | assumption | omega | (simp only [zH]; omega)))
  refine awp_loopC (τ := Nat) (fun i => i ≤ o.length ∧ ∀ v, v < i → p.getD v 0 ≠ 60) (fun i => ⟨16, [(15, .int .i64 i), (14, .int .i64 o.length), (4, .own 10), (3, .int .i64 0), (2, .own 1), (1, .rop (.agg (.cons (.roI o) (.cons (.roI p) (.cons (.roII x) .nil)))))],
    [(7, some (.ints (du (fun o => 1 - o) o i))), (8, some (.ints (du (fun p => p + 1) p i))), (9, some (.rowsR x)), (1, some (.box (.agg (.cons (.cst (.slice none 0 0)) (.cons (.cst (.slice none 0 0)) (.cons (.cst (.slice none 0 0)) .nil)))))), (10, some (.box (.agg (.cons (.own 7) (.cons (.own 8) (.cons (.own 9) .nil))))))], []⟩) (fun i => o.length - i) 0 [] ?_ ⟨Nat.zero_le _, fun v hv => absurd hv (Nat.not_lt_zero v)⟩ ?_
  · refine ⟨rfl, ?_, ?_⟩ <;> simp only [zE0, zE1, zE2, zE3, zE4, zE5, evp, evx, ev1, evLoad, evStore, evBin, isBoolK, forall_const, z38, tb, Nat.reduceAdd, Nat.reduceSub, Nat.reduceMul, Nat.reduceEqDiff, Nat.reduceLeDiff, Nat.reduceLT, Nat.reduceBEq, Nat.reduceBNe, ↓reduceIte, reduceIte, spDual, validS, zI, du_zero]
  rintro i ⟨hi, hno⟩
  have hl1 := du_len (f := fun o => 1 - o) (xs := o) (i := i)
  have hl2 := du_len (f := fun p => p + 1) (xs := p) (i := i)
  have hf1 : i < o.length → (du (fun o => 1 - o) o i).getD i 0 = o.getD i 0 ∧ 0 ≤ o.getD i 0 ∧ o.getD i 0 ≤ 1 := fun h => by
    obtain ⟨⟨a1, a2, a3⟩, _⟩ := hpos i h
    exact ⟨du_getD h, a1, a2⟩
  have hf2 : i < o.length → (du (fun p => p + 1) p i).getD i 0 = p.getD i 0 ∧ 0 ≤ p.getD i 0 ∧ p.getD i 0 ≤ 60 := fun h => by
    obtain ⟨⟨a1, a2, a3, a4, _⟩, _⟩ := hpos i h
    exact ⟨du_getD (by omega), a3, a4⟩
  repeat' first
    | with_reducible first | refine awp_seq ?_ | refine awp_block ?_ | refine next_then ?_ | refine next_block ?_ | refine exit_then ?_ | refine ret_then ?_ | refine ret_block ?_ | refine exit_here ?_ | refine awp_exit ?_ | refine awp_ret ?_ | refine awp_skip ?_ | refine awp_label ?_ | refine next_noGoto ?_ | refine ret_noGoto ?_ | refine exit_noGoto ?_ | refine awp_scope ?_
    | ((with_reducible refine exit_past ?_ ?_); exact rfl)
    | ((with_reducible refine isCond ?_); refine awp_condO rfl ?_ ?_ <;> intro hb <;> (try simp only [zH] at hb))
    | ((with_reducible refine isRegS 12 ?_ ?_); (· exact rfl); (first | refine awp_textM htb hmz spDual_ok (fun _ => false) rfl rfl ?_ | refine awp_drawM hmo htb hmz spDual_ok (fun _ => false) rfl rfl (by kernel_rfl) ?_); intro m' e' l' ob h; simp only [zE0, zE1, zE2, zE3, zE4, zE5, evp, evx, ev1, evLoad, evStore, evBin, isBoolK, forall_const, z38, tb, Nat.reduceAdd, Nat.reduceSub, Nat.reduceMul, Nat.reduceEqDiff, Nat.reduceLeDiff, Nat.reduceLT, Nat.reduceBEq, Nat.reduceBNe, ↓reduceIte, reduceIte, spDual, validS] at h; obtain ⟨rfl, rfl, rfl, rfl⟩ := h; refine ⟨?_, ?_⟩)
    | ((with_reducible refine Ob.mk ?_); first | exact trivial | (intros; omega) | ((repeat' first | apply And.intro | (intro hg; have hg' := hg; try simp only [zH] at hg')) <;> first | assumption | omega | (simp only [zH]; omega)))
  · have hil : i < o.length := by omega
    have hge : ((du (fun p => p + 1) p i).set i ((du (fun p => p + 1) p i).getD i 0 + 1)).getD i 0 = p.getD i 0 + 1 := by
      rw [getD_set (by omega), if_pos rfl, (hf2 hil).1]
    rw [hge] at hb
    refine fin_ret rfl rfl (spec_imp rfl ?_ rfl)
    have hex : ∃ v, v < (Gm.mk o p x).n ∧ p.getD v 0 = 60 := ⟨i, hil, by have := hf2 hil; omega⟩
    simp only [dualR, validB_true hV, if_pos hex]
    exact imp_tup (imp_cons (imp_agg (imp_cons imp_nilI (imp_cons imp_nilI (imp_cons imp_nilII (imp_eq rfl))))) (imp_eq rfl))
  · have hil : i < o.length := by omega
    have hge : ((du (fun p => p + 1) p i).set i ((du (fun p => p + 1) p i).getD i 0 + 1)).getD i 0 = p.getD i 0 + 1 := by
      rw [getD_set (by omega), if_pos rfl, (hf2 hil).1]
    rw [hge] at hb
    refine back (i + 1) [] ?_ ⟨by omega, fun v hv => ?_⟩ (by omega)
    · (refine ⟨rfl, ?_, ?_⟩ <;> simp only [zE0, zE1, zE2, zE3, zE4, zE5, evp, evx, ev1, evLoad, evStore, evBin, isBoolK, forall_const, z38, tb, Nat.reduceAdd, Nat.reduceSub, Nat.reduceMul, Nat.reduceEqDiff, Nat.reduceLeDiff, Nat.reduceLT, Nat.reduceBEq, Nat.reduceBNe, ↓reduceIte, reduceIte, spDual, validS, zI])
      rw [(hf1 hil).1, (hf2 hil).1]
      exact ⟨du_next (f := fun o => 1 - o) hil, du_next (f := fun p => p + 1) (by omega)⟩
    · rcases Nat.lt_succ_iff_lt_or_eq.1 hv with h | rfl
      · exact hno v h
      · omega
  have hie : i = o.length := by omega
  subst hie
  refine awp_fzN 7 (.roI (du (fun o => 1 - o) o o.length)) (by simp only [lkr_cons, lkr_nil, fzE, fzA, fzR, fzB, set1, nbeq, Nat.reduceEqDiff, decide_true, decide_false, ↓reduceIte, reduceIte, cond_true, cond_false, List.take_length, Option.some.injEq]; rfl) (by first | exact rfl | (refine ⟨?_, rfl⟩; first | rfl | (intros; rfl))) (by simp only [lkr_cons, lkr_nil, fzE, fzA, fzR, fzB, set1, nbeq, Nat.reduceEqDiff, decide_true, decide_false, ↓reduceIte, reduceIte, cond_true, cond_false, List.take_length, Option.some.injEq]; rfl) (by simp only [lkr_cons, lkr_nil, fzE, fzA, fzR, fzB, set1, nbeq, Nat.reduceEqDiff, decide_true, decide_false, ↓reduceIte, reduceIte, cond_true, cond_false, List.take_length, Option.some.injEq]; rfl) ?_
  refine awp_fzN 8 (.roI (du (fun p => p + 1) p o.length)) (by simp only [lkr_cons, lkr_nil, fzE, fzA, fzR, fzB, set1, nbeq, Nat.reduceEqDiff, decide_true, decide_false, ↓reduceIte, reduceIte, cond_true, cond_false, List.take_length, Option.some.injEq]; rfl) (by first | exact rfl | (refine ⟨?_, rfl⟩; first | rfl | (intros; rfl))) (by simp only [lkr_cons, lkr_nil, fzE, fzA, fzR, fzB, set1, nbeq, Nat.reduceEqDiff, decide_true, decide_false, ↓reduceIte, reduceIte, cond_true, cond_false, List.take_length, Option.some.injEq]; rfl) (by simp only [lkr_cons, lkr_nil, fzE, fzA, fzR, fzB, set1, nbeq, Nat.reduceEqDiff, decide_true, decide_false, ↓reduceIte, reduceIte, cond_true, cond_false, List.take_length, Option.some.injEq]; rfl) ?_
  refine awp_fzN 9 (.roII x) (by simp only [lkr_cons, lkr_nil, fzE, fzA, fzR, fzB, set1, nbeq, Nat.reduceEqDiff, decide_true, decide_false, ↓reduceIte, reduceIte, cond_true, cond_false, List.take_length, Option.some.injEq]; rfl) (by first | exact rfl | (refine ⟨?_, rfl⟩; first | rfl | (intros; rfl))) (by simp only [lkr_cons, lkr_nil, fzE, fzA, fzR, fzB, set1, nbeq, Nat.reduceEqDiff, decide_true, decide_false, ↓reduceIte, reduceIte, cond_true, cond_false, List.take_length, Option.some.injEq]; rfl) (by simp only [lkr_cons, lkr_nil, fzE, fzA, fzR, fzB, set1, nbeq, Nat.reduceEqDiff, decide_true, decide_false, ↓reduceIte, reduceIte, cond_true, cond_false, List.take_length, Option.some.injEq]; rfl) ?_
  repeat' first
    | with_reducible first | refine awp_seq ?_ | refine awp_block ?_ | refine next_then ?_ | refine next_block ?_ | refine exit_then ?_ | refine ret_then ?_ | refine ret_block ?_ | refine exit_here ?_ | refine awp_exit ?_ | refine awp_ret ?_ | refine awp_skip ?_ | refine awp_label ?_ | refine next_noGoto ?_ | refine ret_noGoto ?_ | refine exit_noGoto ?_ | refine awp_scope ?_
    | ((with_reducible refine exit_past ?_ ?_); exact rfl)
    | ((with_reducible refine isCond ?_); refine awp_condO rfl ?_ ?_ <;> intro hb <;> (try simp only [zH] at hb))
    | ((with_reducible refine isReg ?_); (first | refine awp_textM htb hmz spDual_ok (fun _ => false) rfl rfl ?_ | refine awp_drawM hmo htb hmz spDual_ok (fun _ => false) rfl rfl (by kernel_rfl) ?_); intro m' e' l' ob h; simp only [zE0, zE1, zE2, zE3, zE4, zE5, evp, evx, ev1, evLoad, evStore, evBin, isBoolK, forall_const, z38, tb, Nat.reduceAdd, Nat.reduceSub, Nat.reduceMul, Nat.reduceEqDiff, Nat.reduceLeDiff, Nat.reduceLT, Nat.reduceBEq, Nat.reduceBNe, ↓reduceIte, reduceIte, spDual, validS] at h; obtain ⟨rfl, rfl, rfl, rfl⟩ := h; refine ⟨?_, ?_⟩)
    | ((with_reducible refine Ob.mk ?_); first | exact trivial | (intros; omega) | ((repeat' first | apply And.intro | (intro hg; have hg' := hg; try simp only [zH] at hg')) <;> first | assumption | omega | (simp only [zH]; omega)))
  refine fin_ret rfl rfl (spec_flat rfl ?_ rfl)
  have hex : ¬ ∃ v, v < (Gm.mk o p x).n ∧ p.getD v 0 = 60 := fun ⟨v, h1, h2⟩ => hno v h1 h2
  simp only [dualR, validB_true hV, if_neg hex]
  rw [du_all, ← hpl, du_all]
  rfl
end Go.Proofs.Ytgminhedbeblpaa.Cal
namespace Go.Proofs.Ytgminhedbeblpaa.Cal
section
open Go Pl
/-- What wins for one player wins for the other in the game turned. -/
theorem sol_turn {own own' pri pri' : Nat → Int} {sx : Nat → List Nat} {K : Nat → Prop} {W W' : Nat → Int} {c : Nat → Nat} {p p' s : Int} (h : Sol own pri sx K W c p) (hp : p' = 1 - p) (hs : s % 2 = 1)
    (ho : ∀ v, K v → own' v = 1 - own v) (hpr : ∀ v, K v → pri' v = pri v + s) (hW : ∀ v, K v → W' v = 1 - W v) : Sol own' pri' sx K W' c p' := by
  have e1 : ∀ v, K v → (W' v = p' ↔ W v = p) := fun v hv => by rw [hW v hv, hp]; omega
  have e2 : ∀ v, K v → (own' v = p' ↔ own v = p) := fun v hv => by rw [ho v hv, hp]; omega
  refine ⟨fun v hv hw h0 => ?_, fun v hv hw h0 t ht hk => ?_, fun w hk hw hpw hc => ?_⟩
  · obtain ⟨a1, a2, a3⟩ := h.mine v hv ((e1 v hv).1 hw) ((e2 v hv).1 h0)
    exact ⟨a1, a2, (e1 _ a2).2 a3⟩
  · exact (e1 t hk).2 (h.his v hv ((e1 v hv).1 hw) (fun e => h0 ((e2 v hv).2 e)) t ht hk)
  · refine h.cyc w hk ((e1 w hk).1 hw) (fun e => hpw ?_) ?_
    · rw [hpr w hk, hp]; omega
    · obtain ⟨t, ht, htw⟩ := hc
      have hE : ∀ a b, Low (Stp own' sx K W' c p') pri' w a b → Low (Stp own sx K W c p) pri w a b := fun a b hab => by
        obtain ⟨⟨⟨h1, h2⟩, h3, h4, h5⟩, h6⟩ := hab
        refine ⟨⟨⟨h1, (e1 a h1).1 h2⟩, h3, fun e => h4 ((e2 a h1).2 e), fun e => h5 fun e3 => e ((e2 a h1).1 e3)⟩, ?_⟩
        rw [hpr b h3, hpr w hk] at h6
        omega
      exact ⟨t, hE _ _ ht, Rch.mono hE htw⟩
def dualG (g : Gm) : Gm := ⟨g.own.map fun o => 1 - o, g.pri.map fun p => p + 1, g.nxt⟩
theorem dual_valid {g : Gm} (hV : Valid g) (h60 : ∀ v, v < g.own.length → g.pri.getD v 0 ≠ 60) : Valid (dualG g) := by
  obtain ⟨hn, hpl, hxl, hpos⟩ := hV
  have hl : (dualG g).n = g.n := List.length_map ..
  refine ⟨by rw [hl]; exact hn, by rw [hl, ← hpl]; exact List.length_map .., by rw [hl]; exact hxl, fun v hv => ?_⟩
  rw [hl] at hv
  obtain ⟨⟨a1, a2, a3, a4, a5, a6⟩, hr⟩ := hpos v hv
  have e1 : (dualG g).o v = 1 - g.o v := map_getDI hv
  have e2 : (dualG g).p v = g.p v + 1 := map_getDI (f := fun p => p + 1) (by rw [hpl]; exact hv)
  have h6 : g.p v ≠ 60 := h60 v hv
  unfold posOK
  rw [e1, e2, hl]
  exact ⟨⟨by omega, by omega, by omega, by omega, a5, a6⟩, hr⟩
/-- A game turned is won by the other player. -/
theorem win_turn {g : Gm} (hV : Valid g) (h60 : ∀ v, v < g.own.length → g.pri.getD v 0 ≠ 60) {v : Nat} (hv : v < g.own.length) : (winA (dualG g)).getD v 0 = 1 - (winA g).getD v 0 := by
  have hVd := dual_valid hV h60
  have hG := gok hV
  obtain ⟨h1, c, h2, h3⟩ := win_sol hV
  obtain ⟨g1, d, g2, g3⟩ := win_sol hVd
  have hn : (dualG g).own.length = g.own.length := List.length_map ..
  rw [hn] at g1 g2 g3
  have ho : ∀ v, v < g.own.length → (dualG g).own.getD v 0 = 1 - g.own.getD v 0 := fun v hv => map_getDI hv
  have hp : ∀ v, v < g.own.length → (dualG g).pri.getD v 0 = g.pri.getD v 0 + 1 := fun v hv => map_getDI (f := fun p => p + 1) (by rw [hG.pl]; exact hv)
  have t0 := sol_turn (own' := fun v => (dualG g).own.getD v 0) (pri' := fun v => (dualG g).pri.getD v 0) (W' := fun v => 1 - (winA g).getD v 0) (p' := 1) (s := 1) h2 rfl (by decide) ho hp (fun v _ => rfl)
  have t1 := sol_turn (own' := fun v => (dualG g).own.getD v 0) (pri' := fun v => (dualG g).pri.getD v 0) (W' := fun v => 1 - (winA g).getD v 0) (p' := 0) (s := 1) h3 rfl (by decide) ho hp (fun v _ => rfl)
  have hown : ∀ v, v < g.own.length → (dualG g).own.getD v 0 = 0 ∨ (dualG g).own.getD v 0 = 1 := fun v hv => by
    have := hG.own v hv
    rw [ho v hv]; omega
  have a1 := h1 v hv
  have b1 := g1 v hv
  rcases a1 with e | e
  · rcases b1 with e2 | e2
    · exact absurd (by rw [e]; rfl) (sol_apart (fun v hv => hv) g2 t0 hown hv e2)
    · rw [e, e2]; rfl
  · rcases b1 with e2 | e2
    · rw [e, e2]; rfl
    · exact absurd e2 (sol_apart (fun v hv => hv) t1 g3 hown hv (by rw [e]; rfl))
theorem bC_ask {g : Gm} {odd many l : List Int} {v : Nat} : ∀ {r : Nat}, 0 < r → ∃ i, i < r ∧ bC g odd many l v r = (g.nxt.getD v []).getD i 0 ∧ bB g odd many l v r = askV g odd many l v i
  | 0, h => absurd h (Nat.lt_irrefl 0)
  | r + 1, _ => by
    have hC : bC g odd many l v (r + 1) = if r = 0 ∨ (g.own.getD v 0 = 0 ∧ askV g odd many l v r < bB g odd many l v r) ∨ (g.own.getD v 0 ≠ 0 ∧ bB g odd many l v r < askV g odd many l v r) then (g.nxt.getD v []).getD r 0 else bC g odd many l v r := rfl
    have hB : bB g odd many l v (r + 1) = if r = 0 ∨ (g.own.getD v 0 = 0 ∧ askV g odd many l v r < bB g odd many l v r) ∨ (g.own.getD v 0 ≠ 0 ∧ bB g odd many l v r < askV g odd many l v r) then askV g odd many l v r else bB g odd many l v r := rfl
    rw [hC, hB]
    by_cases hc : r = 0 ∨ (g.own.getD v 0 = 0 ∧ askV g odd many l v r < bB g odd many l v r) ∨ (g.own.getD v 0 ≠ 0 ∧ bB g odd many l v r < askV g odd many l v r)
    · rw [if_pos hc, if_pos hc]
      exact ⟨r, Nat.lt_succ_self r, rfl, rfl⟩
    · rw [if_neg hc, if_neg hc]
      obtain ⟨i, h1, h2, h3⟩ := bC_ask (g := g) (odd := odd) (many := many) (l := l) (v := v) (r := r) (by omega)
      exact ⟨i, by omega, h2, h3⟩
/-- Where 0 goes by the measures. -/
noncomputable def toF (g : Gm) (v : Nat) : Int := if (meaF g v).1 = false ∧ g.own.getD v 0 = 0 then bC g (odN g.pri 61) (mnN g.pri 61) (leastL g (odN g.pri 61) (mnN g.pri 61)) v (g.nxt.getD v []).length else -1
noncomputable def wonL (g : Gm) : List Bool := (List.range g.own.length).map fun v => !(meaF g v).1
noncomputable def toL (g : Gm) : List Int := (List.range g.own.length).map (toF g)
theorem won_low {g : Gm} (hV : Valid g) {v : Nat} (hv : v < g.own.length) : (meaF g v).1 = false ↔ meaV g v < rpr (mnN g.pri 61) := by
  have := mea_bd (gok hV) hv
  rw [meaF_eq, deM_fst, decide_eq_false_iff_not]
  omega
theorem to_in {g : Gm} (hV : Valid g) {v : Nat} (hv : v < g.own.length) (h1 : (meaF g v).1 = false) (h2 : g.own.getD v 0 = 0) : toF g v ∈ g.nxt.getD v [] ∧ progV (odN g.pri 61) (mnN g.pri 61) (meaV g (toF g v).toNat) (g.pri.getD v 0) ≤ meaV g v := by
  have hG := gok hV
  obtain ⟨i, hi, e1, e2⟩ := bC_ask (g := g) (odd := odN g.pri 61) (many := mnN g.pri 61) (l := leastL g (odN g.pri 61) (mnN g.pri 61)) (v := v) (hG.len v hv).1
  have e : toF g v = (g.nxt.getD v []).getD i 0 := by unfold toF; rw [if_pos ⟨h1, h2⟩]; exact e1
  rw [e]
  refine ⟨?_, ?_⟩
  · rw [List.getD_eq_getElem?_getD (l := g.nxt.getD v []), List.getElem?_eq_getElem hi]; exact List.getElem_mem hi
  · have := (mea_least hG).ok v hv
    unfold bestV at this
    rw [e2] at this
    exact this
theorem mea_sol {g : Gm} (hV : Valid g) : Sol (fun v => g.own.getD v 0) (fun v => g.pri.getD v 0) (rws g.nxt) (fun v => v < g.own.length) (fun v => (winA g).getD v 0) (fun v => (toF g v).toNat) 0 := by
  have hG := gok hV
  have hs := sol_of_pre (g := g) (odd := odN g.pri 61) (many := mnN g.pri 61) (l := leastL g (odN g.pri 61) (mnN g.pri 61)) (c := fun v => (toF g v).toNat) mnN_pos hG.row (fun v hv => (hG.len v hv).1) (mea_least hG).toPre (fun v hv h0 hl => by
    obtain ⟨h1, h2⟩ := to_in hV hv ((won_low hV hv).2 hl) h0
    exact ⟨List.mem_map.2 ⟨_, h1, rfl⟩, h2⟩)
  refine Sol.congrW hs fun v hv => ?_
  have h1 := mea_win hV hv
  have h2 := (win_sol hV).1 v hv
  by_cases h : meaV g v < rpr (mnN g.pri 61)
  · rw [h1.1 h]; exact (if_pos h).symm
  · have h3 : ¬ (winA g).getD v 0 = 0 := fun e => h (h1.2 e)
    rw [show (if (leastL g (odN g.pri 61) (mnN g.pri 61)).getD v 0 < rpr (mnN g.pri 61) then (0 : Int) else 1) = 1 from if_neg h]
    omega
/-- What measure.Solve answers. -/
noncomputable def mslC (g : Gm) : List Int := (List.range g.own.length).map fun v => if (meaF g v).1 = false then toF g v else toF (dualG g) v
noncomputable def mslW (g : Gm) : List Int := (List.range g.own.length).map fun v => if (meaF g v).1 = false then (0 : Int) else 1
theorem msl_win {g : Gm} (hV : Valid g) : mslW g = winA g := by
  refine List.ext_getElem (by simp [mslW, winA, winL]) fun v h1 h2 => ?_
  have hv : v < g.own.length := by simpa [mslW] using h1
  have e : (winA g)[v] = (winA g).getD v 0 := by rw [List.getD_eq_getElem?_getD, List.getElem?_eq_getElem h2]; rfl
  have h3 := mea_top hV hv
  have h4 := (win_sol hV).1 v hv
  rw [e]
  simp only [mslW, List.getElem_map, List.getElem_range]
  rw [h3]
  rcases h4 with e4 | e4 <;> rw [e4] <;> rfl
theorem msl_sol {g : Gm} (hV : Valid g) (h60 : ∀ v, v < g.own.length → g.pri.getD v 0 ≠ 60) : solB g (mslW g) (mslC g) = true := by
  have hG := gok hV
  have hVd := dual_valid hV h60
  have hn : (dualG g).own.length = g.own.length := List.length_map ..
  have ho : ∀ v, v < g.own.length → (dualG g).own.getD v 0 = 1 - g.own.getD v 0 := fun v hv => map_getDI hv
  have hp : ∀ v, v < g.own.length → (dualG g).pri.getD v 0 = g.pri.getD v 0 + 1 := fun v hv => map_getDI (f := fun p => p + 1) (by rw [hG.pl]; exact hv)
  have hC : ∀ v, v < g.own.length → (mslC g).getD v 0 = if (meaF g v).1 = false then toF g v else toF (dualG g) v := fun v hv => by
    simp [mslC, List.getD_eq_getElem?_getD, hv]
  have hW01 := (win_sol hV).1
  have htop : ∀ v, v < g.own.length → ((meaF g v).1 = false ↔ (winA g).getD v 0 = 0) := fun v hv => by
    rw [mea_top hV hv, decide_eq_false_iff_not]
    have := hW01 v hv
    omega
  have htopd : ∀ v, v < g.own.length → ((meaF (dualG g) v).1 = false ↔ (winA g).getD v 0 = 1) := fun v hv => by
    rw [mea_top hVd (by rw [hn]; exact hv), decide_eq_false_iff_not, win_turn hV h60 hv]
    have := hW01 v hv
    omega
  rw [msl_win hV]
  refine (solB_iff hV).2 ⟨decide_eq_true ⟨by simp [winA, winL], by simp [mslC], fun v hv => ⟨hW01 v hv, fun h => ?_, fun h => ?_⟩⟩, fun q hq => ?_⟩
  · rw [hC v hv]
    rcases hW01 v hv with e | e
    · have hm := (htop v hv).2 e
      rw [if_pos hm]
      exact (to_in hV hv hm (by rw [h, e])).1
    · have hm : ¬ (meaF g v).1 = false := fun h2 => by have := (htop v hv).1 h2; omega
      rw [if_neg hm]
      exact (to_in hVd (by rw [hn]; exact hv) ((htopd v hv).2 e) (by rw [ho v hv, h, e]; rfl)).1
  · rw [hC v hv]
    have hov := hG.own v hv
    rcases hW01 v hv with e | e
    · rw [if_pos ((htop v hv).2 e)]
      unfold toF
      rw [if_neg]
      rintro ⟨_, h2⟩
      omega
    · have hm : ¬ (meaF g v).1 = false := fun h2 => by have := (htop v hv).1 h2; omega
      rw [if_neg hm]
      unfold toF
      rw [if_neg]
      rintro ⟨_, h2⟩
      rw [ho v hv] at h2
      omega
  · rcases hq with rfl | rfl
    · refine Sol.congr (mea_sol hV) fun v hv hw h0 => ?_
      rw [hC v hv, if_pos ((htop v hv).2 hw)]
    · have hd := mea_sol hVd
      rw [hn] at hd
      have := sol_turn (own' := fun v => g.own.getD v 0) (pri' := fun v => g.pri.getD v 0) (W' := fun v => (winA g).getD v 0) (p' := 1) (s := -1) hd rfl (by decide) (fun v hv => by
        show g.own.getD v 0 = 1 - (dualG g).own.getD v 0
        rw [ho v hv]; omega) (fun v hv => by
        show g.pri.getD v 0 = (dualG g).pri.getD v 0 + -1
        rw [hp v hv]; omega) (fun v hv => by
        show (winA g).getD v 0 = 1 - (winA (dualG g)).getD v 0
        rw [win_turn hV h60 hv]; omega)
      refine Sol.congr this fun v hv hw h0 => ?_
      have hm : ¬ (meaF g v).1 = false := fun h2 => by
        have := (htop v hv).1 h2
        have hw : (winA g).getD v 0 = 1 := hw
        omega
      rw [hC v hv, if_neg hm]
end
end Go.Proofs.Ytgminhedbeblpaa.Cal
