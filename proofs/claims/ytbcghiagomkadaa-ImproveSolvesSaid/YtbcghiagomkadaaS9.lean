/- Own texts, merged. -/
import Derived.RangeFuncIn
import Derived.RangeFuncRecord
import Derived.Below
import Derived.Test.YtbcghiagomkadaaS8
set_option linter.unusedVariables false
set_option linter.unusedSimpArgs false
open Nat (reduceAdd reduceSub reduceMul reduceEqDiff reduceLeDiff reduceLT)
namespace Go.Proofs.Ytbcghiagomkadaa.Cal
section
open Go Pl
theorem Rch.mapD {E E' : Nat → Nat → Prop} {D : Nat → Prop} {f : Nat → Nat} (h : ∀ a b, D a → E a b → E' (f a) (f b) ∧ D b) {a b : Nat} (hr : Rch E a b) (ha : D a) : Rch E' (f a) (f b) ∧ D b := by
  induction hr with
  | refl => exact ⟨.refl _, ha⟩
  | step _ e ih => exact ⟨.step ih.1 (h _ _ ih.2 e).1, (h _ _ ih.2 e).2⟩
theorem Zg1 {k : List Bool} {v : Nat} (h : k.getD v false = true) : ∀ {n : Nat}, v < n → (kp k v).length < (kp k n).length ∧ (kp k n).getD (kp k v).length 0 = v
  | 0, hv => absurd hv (Nat.not_lt_zero v)
  | n + 1, hv => by
    rw [Zh4]
    by_cases e : v = n
    · subst e
      rw [if_pos h]
      refine ⟨by simp, ?_⟩
      rw [List.getD_eq_getElem?_getD, List.getElem?_append_right (Nat.le_refl _), Nat.sub_self]; rfl
    · obtain ⟨h1, h2⟩ := Zg1 h (n := n) (by omega)
      split
      · refine ⟨by rw [List.length_append, List.length_singleton]; omega, ?_⟩
        rw [List.getD_eq_getElem?_getD, List.getElem?_append_left h1, ← List.getD_eq_getElem?_getD]; exact h2
      · exact ⟨h1, h2⟩
theorem Zjx {k : List Bool} {n i : Nat} (h : i < (kp k n).length) : (kp k n).getD i 0 < n ∧ k.getD ((kp k n).getD i 0) false = true := by
  have hm : (kp k n).getD i 0 ∈ kp k n := by
    rw [List.getD_eq_getElem?_getD, List.getElem?_eq_getElem h]; exact List.getElem_mem h
  have := List.mem_filter.1 hm
  exact ⟨List.mem_range.1 this.1, this.2⟩
theorem Zfh {α : Type} {f : Nat → α} {l : List Nat} {i : Nat} {d : α} (h : i < l.length) : (l.map f).getD i d = f (l.getD i 0) := by
  simp [List.getD_eq_getElem?_getD, h]
theorem map_getDI {f : Int → Int} {l : List Int} {i : Nat} (h : i < l.length) : (l.map f).getD i 0 = f (l.getD i 0) := by
  simp [List.getD_eq_getElem?_getD, h]
def selL (g : Gm) (W : List Int) (p : Int) : List Bool := (List.range g.own.length).map fun v => decide (W.getD v 0 = p)
theorem Zed {g : Gm} {W : List Int} {p : Int} {v : Nat} (hv : v < g.own.length) : (selL g W p).getD v false = true ↔ W.getD v 0 = p := by
  simp [selL, List.getD_eq_getElem?_getD, hv]
def nmF (k : List Bool) (v : Nat) : Int := if k.getD v false = true then ((kp k v).length : Int) else -1
def nxF (g : Gm) (C : List Int) (p : Int) (v : Nat) : List Int := if g.own.getD v 0 = p then [C.getD v 0] else g.nxt.getD v []
def folG (g : Gm) (W C : List Int) (p : Int) : Gm := ⟨(kp (selL g W p) g.own.length).map fun v => g.own.getD v 0, (kp (selL g W p) g.own.length).map fun v => g.pri.getD v 0, (kp (selL g W p) g.own.length).map fun v => (nxF g C p v).map fun t => nmF (selL g W p) t.toNat⟩
open Classical in
noncomputable def cloB (g : Gm) (W C : List Int) (p : Int) : Bool := decide (∀ v, v < g.own.length → W.getD v 0 = p → ∀ t, t ∈ nxF g C p v → W.getD t.toNat 0 = p)
open Classical in
noncomputable def Zg5 (g : Gm) (W C : List Int) : Bool := decide (W.length = g.own.length ∧ C.length = g.own.length ∧ ∀ v, v < g.own.length → (W.getD v 0 = 0 ∨ W.getD v 0 = 1) ∧ (g.own.getD v 0 = W.getD v 0 → C.getD v 0 ∈ g.nxt.getD v []) ∧ (g.own.getD v 0 ≠ W.getD v 0 → C.getD v 0 = -1))
noncomputable def slP (g : Gm) (W C : List Int) (p : Int) : Bool := cloB g W C p && !(Zca (folG g W C p) (1 - p)).any id
noncomputable def solB (g : Gm) (W C : List Int) : Bool := Zg5 g W C && slP g W C 0 && slP g W C 1
theorem Zcq {l : List Int} {t : Int} (h : t ∈ l) : ∃ j, j < l.length ∧ l.getD j 0 = t := by
  obtain ⟨j, hj, e⟩ := List.getElem_of_mem h
  exact ⟨j, hj, by rw [List.getD_eq_getElem?_getD, List.getElem?_eq_getElem hj, Option.getD_some]; exact e⟩
theorem Zgy {g : Gm} (hG : GOk g) {W C : List Int} {p : Int} (hc : ∀ v, v < g.own.length → W.getD v 0 = p → g.own.getD v 0 = p → C.getD v 0 ∈ g.nxt.getD v []) {v : Nat} (hv : v < g.own.length) (hw : W.getD v 0 = p) {t : Int} (ht : t ∈ nxF g C p v) :
    t ∈ g.nxt.getD v [] ∧ 0 ≤ t ∧ t < g.own.length := by
  have hm : t ∈ g.nxt.getD v [] := by
    unfold nxF at ht
    split at ht
    · rename_i h; rw [List.mem_singleton.1 ht]; exact hc v hv hw h
    · exact ht
  obtain ⟨j, hj, e⟩ := Zcq hm
  have := hG.at' v hv j hj
  rw [e] at this
  exact ⟨hm, this⟩
theorem fol_valid {g : Gm} (hV : Zf9 g) {W C : List Int} {p : Int} (hc : ∀ v, v < g.own.length → W.getD v 0 = p → g.own.getD v 0 = p → C.getD v 0 ∈ g.nxt.getD v []) (hcl : cloB g W C p = true) : Zf9 (folG g W C p) := by
  have hG := gok hV
  have hcl := of_decide_eq_true hcl
  have hl : (folG g W C p).n = (kp (selL g W p) g.own.length).length := List.length_map ..
  refine ⟨?_, ?_, ?_, fun i hi => ?_⟩
  · rw [hl]; exact Nat.le_trans Zin hG.n
  · rw [hl]; exact List.length_map ..
  · rw [hl]; exact List.length_map ..
  rw [hl] at hi
  obtain ⟨h1, h2⟩ := Zjx hi
  have e1 : (folG g W C p).o i = g.own.getD ((kp (selL g W p) g.own.length).getD i 0) 0 := Zfh hi
  have e2 : (folG g W C p).p i = g.pri.getD ((kp (selL g W p) g.own.length).getD i 0) 0 := Zfh hi
  have e3 : (folG g W C p).x i = (nxF g C p ((kp (selL g W p) g.own.length).getD i 0)).map fun t => nmF (selL g W p) t.toNat := Zfh hi
  have hn2 := hl
  generalize (kp (selL g W p) g.own.length).getD i 0 = v at *
  have hw := (Zed h1).1 h2
  have hsel : ∀ t, t ∈ nxF g C p v → (selL g W p).getD t.toNat false = true ∧ t.toNat < g.own.length := fun t ht => by
    have hb := Zgy hG hc h1 hw ht
    have hlt : t.toNat < g.own.length := by omega
    exact ⟨(Zed hlt).2 (hcl v h1 hw t ht), hlt⟩
  have hlen : 1 ≤ (nxF g C p v).length ∧ (nxF g C p v).length ≤ 64 := by
    unfold nxF
    split
    · exact ⟨Nat.le_refl _, by show 1 ≤ 64; decide⟩
    · exact hG.len v h1
  obtain ⟨⟨a1, a2, a3, a4, _⟩, hrow⟩ := hV.2.2.2 v h1
  unfold Zkr
  rw [e1, e2, e3, List.length_map]
  refine ⟨⟨a1, a2, a3, a4, hlen⟩, fun j hj => ?_⟩
  have hat : ∀ j, j < (nxF g C p v).length → (nxF g C p v).getD j 0 ∈ nxF g C p v := fun j hj => by
    rw [List.getD_eq_getElem?_getD, List.getElem?_eq_getElem hj]; exact List.getElem_mem hj
  have hnum : ∀ j, j < (nxF g C p v).length → ((nxF g C p v).map fun t => nmF (selL g W p) t.toNat).getD j 0 = ((kp (selL g W p) ((nxF g C p v).getD j 0).toNat).length : Int) := fun j hj => by
    rw [map_getDI hj]
    unfold nmF
    rw [if_pos (hsel _ (hat j hj)).1]
  refine ⟨?_, ?_, fun h0 => ?_⟩
  · rw [hnum j hj]; omega
  · rw [hnum j hj, hn2]
    have := (Zg1 (hsel _ (hat j hj)).1 (hsel _ (hat j hj)).2).1
    omega
  · rw [hnum j hj, hnum (j - 1) (by omega)]
    have hlt : ((nxF g C p v).getD (j - 1) 0).toNat < ((nxF g C p v).getD j 0).toNat := by
      have b1 := Zgy hG hc h1 hw (hat j hj)
      have b2 := Zgy hG hc h1 hw (hat (j - 1) (by omega))
      have : (nxF g C p v).getD (j - 1) 0 < (nxF g C p v).getD j 0 := by
        by_cases e : g.own.getD v 0 = p
        · have : (nxF g C p v).length = 1 := by unfold nxF; rw [if_pos e]; rfl
          omega
        · have e4 : nxF g C p v = g.nxt.getD v [] := by unfold nxF; rw [if_neg e]
          rw [e4] at hj ⊢
          exact (hrow j hj).2.2 h0
      omega
    have := (Zg1 (hsel _ (hat (j - 1) (by omega))).1 hlt).1
    omega
theorem Zjk {g : Gm} (hV : Zf9 g) {W C : List Int} {p : Int} (hp : p = 0 ∨ p = 1) (hc : ∀ v, v < g.own.length → W.getD v 0 = p → g.own.getD v 0 = p → C.getD v 0 ∈ g.nxt.getD v []) :
    slP g W C p = true ↔ Sol (fun v => g.own.getD v 0) (fun v => g.pri.getD v 0) (rws g.nxt) (fun v => v < g.own.length) (fun v => W.getD v 0) (fun v => (C.getD v 0).toNat) p := by
  have hG := gok hV
  have hn : (folG g W C p).own.length = (kp (selL g W p) g.own.length).length := List.length_map ..
  have hpr : ∀ i, i < (kp (selL g W p) g.own.length).length → (folG g W C p).pri.getD i 0 = g.pri.getD ((kp (selL g W p) g.own.length).getD i 0) 0 := fun i hi => Zfh hi
  have hrw : ∀ i, i < (kp (selL g W p) g.own.length).length → rws (folG g W C p).nxt i = (nxF g C p ((kp (selL g W p) g.own.length).getD i 0)).map fun t => (nmF (selL g W p) t.toNat).toNat := fun i hi => by
    have : (folG g W C p).nxt.getD i [] = (nxF g C p ((kp (selL g W p) g.own.length).getD i 0)).map fun t => nmF (selL g W p) t.toNat := Zfh hi
    unfold rws
    rw [this, List.map_map]; rfl
  have hnx : ∀ v t, t ∈ nxF g C p v → (g.own.getD v 0 = p → t.toNat = (C.getD v 0).toNat) ∧ (g.own.getD v 0 ≠ p → t.toNat ∈ rws g.nxt v) := fun v t ht => by
    unfold nxF at ht
    split at ht
    · rename_i h; rw [List.mem_singleton.1 ht]; exact ⟨fun _ => rfl, fun h2 => absurd h h2⟩
    · rename_i h; exact ⟨fun h2 => absurd h2 h, fun _ => List.mem_map.2 ⟨t, ht, rfl⟩⟩
  have hxn : ∀ v t, ((g.own.getD v 0 = p → t = (C.getD v 0).toNat) ∧ (g.own.getD v 0 ≠ p → t ∈ rws g.nxt v)) → ∃ s, s ∈ nxF g C p v ∧ s.toNat = t := fun v t h => by
    unfold nxF
    split
    · rename_i e; exact ⟨_, List.mem_singleton.2 rfl, (h.1 e).symm⟩
    · rename_i e; obtain ⟨s, h1, h2⟩ := List.mem_map.1 (h.2 e); exact ⟨s, h1, h2⟩
  have hany : (!(Zca (folG g W C p) (1 - p)).any id) = true ↔ ∀ i, i < (kp (selL g W p) g.own.length).length → ¬ Zhb (folG g W C p) (1 - p) i := by
    rw [Bool.not_eq_true', List.any_eq_false]
    constructor
    · intro h i hi ha
      have h1 := (Zcn (g := folG g W C p) (by rw [hn]; exact hi)).2 ha
      have hlt : i < (Zca (folG g W C p) (1 - p)).length := by simp [Zca, hn, hi]
      rw [List.getD_eq_getElem?_getD, List.getElem?_eq_getElem hlt, Option.getD_some] at h1
      exact h _ (List.getElem_mem hlt) (by rw [h1]; rfl)
    · intro h b hb hb2
      obtain ⟨i, hi, e⟩ := List.getElem_of_mem hb
      have hi2 : i < (kp (selL g W p) g.own.length).length := by simpa [Zca, hn] using hi
      refine h i hi2 ((Zcn (g := folG g W C p) (by rw [hn]; exact hi2)).1 ?_)
      rw [List.getD_eq_getElem?_getD, List.getElem?_eq_getElem hi, Option.getD_some, e]
      exact hb2
  unfold slP
  rw [Bool.and_eq_true, hany]
  constructor
  · rintro ⟨hcl, hno⟩
    have hcl := of_decide_eq_true hcl
    have hidx : ∀ v, v < g.own.length → W.getD v 0 = p → (kp (selL g W p) v).length < (kp (selL g W p) g.own.length).length ∧ (kp (selL g W p) g.own.length).getD (kp (selL g W p) v).length 0 = v := fun v hv hw => Zg1 ((Zed hv).2 hw) hv
    refine ⟨fun v hv hw ho => ?_, fun v hv hw ho t ht hk => ?_, fun w hk hw hpw hcy => ?_⟩
    · have h1 := hc v hv hw ho
      have hm : C.getD v 0 ∈ nxF g C p v := by unfold nxF; rw [if_pos ho]; exact List.mem_singleton.2 rfl
      have hb := Zgy hG hc hv hw hm
      exact ⟨List.mem_map.2 ⟨_, h1, rfl⟩, by omega, hcl v hv hw _ hm⟩
    · obtain ⟨s, h1, h2⟩ := hxn v t ⟨fun h => absurd h ho, fun _ => ht⟩
      rw [← h2]; exact hcl v hv hw s h1
    · obtain ⟨t, ht, htw⟩ := hcy
      have hE : ∀ a b, True → Low (Stp (fun v => g.own.getD v 0) (rws g.nxt) (fun v => v < g.own.length) (fun v => W.getD v 0) (fun v => (C.getD v 0).toNat) p) (fun v => g.pri.getD v 0) w a b → Ed (rws (folG g W C p).nxt) (okP (folG g W C p).pri (g.pri.getD w 0)) (kp (selL g W p) a).length (kp (selL g W p) b).length ∧ True := fun a b _ hab => by
        obtain ⟨⟨⟨h1, h1w⟩, h2, h3, h4⟩, h5⟩ := hab
        obtain ⟨s, hs1, hs2⟩ := hxn a b ⟨h3, h4⟩
        obtain ⟨i1, i2⟩ := hidx a h1 h1w
        have hbw : W.getD b 0 = p := by rw [← hs2]; exact hcl a h1 h1w s hs1
        obtain ⟨j1, j2⟩ := hidx b h2 hbw
        refine ⟨⟨?_, ?_⟩, trivial⟩
        · rw [hrw _ i1, i2]
          refine List.mem_map.2 ⟨s, hs1, ?_⟩
          rw [hs2]
          unfold nmF
          rw [if_pos ((Zed h2).2 hbw)]; rfl
        · show (folG g W C p).pri.getD _ 0 ≤ _
          rw [hpr _ j1, j2]; exact h5
      obtain ⟨i1, i2⟩ := hidx w hk hw
      refine hno _ i1 ⟨_, by rw [hn]; exact i1, ⟨?_, (kp (selL g W p) t).length, ?_, ?_⟩, .refl _⟩
      · rw [hpr _ i1, i2]
        have := mod2 (g.pri.getD w 0)
        have hpw : ¬ g.pri.getD w 0 % 2 = p := hpw
        omega
      · rw [hpr _ i1, i2]; exact (hE w t trivial ht).1
      · rw [hpr _ i1, i2]; exact (Rch.mapD (D := fun _ => True) hE htw trivial).1
  · intro hS
    have hcl : ∀ v, v < g.own.length → W.getD v 0 = p → ∀ t, t ∈ nxF g C p v → W.getD t.toNat 0 = p := fun v hv hw t ht => by
      have hb := Zgy hG hc hv hw ht
      have := hnx v t ht
      by_cases e : g.own.getD v 0 = p
      · rw [this.1 e]; exact (hS.mine v hv hw e).2.2
      · exact hS.his v hv hw e t.toNat (this.2 e) (by omega)
    refine ⟨decide_eq_true hcl, fun i hi => ?_⟩
    rintro ⟨w, hwn, ⟨h1, t, ht, htw⟩, h2⟩
    rw [hn] at hwn
    have hE : ∀ a b, a < (kp (selL g W p) g.own.length).length → Ed (rws (folG g W C p).nxt) (okP (folG g W C p).pri ((folG g W C p).pri.getD w 0)) a b → Low (Stp (fun v => g.own.getD v 0) (rws g.nxt) (fun v => v < g.own.length) (fun v => W.getD v 0) (fun v => (C.getD v 0).toNat) p) (fun v => g.pri.getD v 0) ((kp (selL g W p) g.own.length).getD w 0) ((kp (selL g W p) g.own.length).getD a 0) ((kp (selL g W p) g.own.length).getD b 0) ∧ b < (kp (selL g W p) g.own.length).length := fun a b ha hab => by
      obtain ⟨h3, h4⟩ := hab
      rw [hrw a ha] at h3
      obtain ⟨s, hs1, hs2⟩ := List.mem_map.1 h3
      obtain ⟨k1, k2⟩ := Zjx ha
      have kw := (Zed k1).1 k2
      have hb := Zgy hG hc k1 kw hs1
      have hsn : s.toNat < g.own.length := by omega
      have hsw := hcl _ k1 kw s hs1
      have hsk := (Zed (g := g) (W := W) (p := p) hsn).2 hsw
      have hbi : b = (kp (selL g W p) s.toNat).length := by
        rw [← hs2]; unfold nmF; rw [if_pos hsk]; rfl
      obtain ⟨j1, j2⟩ := Zg1 hsk hsn
      rw [← hbi] at j1 j2
      have h4 : (folG g W C p).pri.getD b 0 ≤ (folG g W C p).pri.getD w 0 := h4
      rw [hpr _ j1, hpr _ hwn] at h4
      refine ⟨⟨⟨⟨k1, kw⟩, ?_, ?_, ?_⟩, h4⟩, j1⟩
      · rw [j2]; exact hsn
      · rw [j2]; exact (hnx _ s hs1).1
      · rw [j2]; exact (hnx _ s hs1).2
    obtain ⟨k1, k2⟩ := Zjx hwn
    have kw := (Zed k1).1 k2
    have ht2 := hE w t hwn ht
    refine hS.cyc _ k1 kw (fun h3 => ?_) ⟨_, ht2.1, (Rch.mapD (D := fun a => a < (kp (selL g W p) g.own.length).length) hE htw ht2.2).1⟩
    have h1 : (folG g W C p).pri.getD w 0 % 2 = 1 - p := h1
    rw [hpr _ hwn] at h1
    have h3 : g.pri.getD ((kp (selL g W p) g.own.length).getD w 0) 0 % 2 = p := h3
    omega
theorem Zg4 {g : Gm} {W C : List Int} {p : Int} (h : Zg5 g W C = true) : ∀ v, v < g.own.length → W.getD v 0 = p → g.own.getD v 0 = p → C.getD v 0 ∈ g.nxt.getD v [] := fun v hv hw ho => ((of_decide_eq_true h).2.2 v hv).2.1 (ho.trans hw.symm)
theorem solB_iff {g : Gm} (hV : Zf9 g) {W C : List Int} : solB g W C = true ↔ Zg5 g W C = true ∧ ∀ p, p = 0 ∨ p = 1 → Sol (fun v => g.own.getD v 0) (fun v => g.pri.getD v 0) (rws g.nxt) (fun v => v < g.own.length) (fun v => W.getD v 0) (fun v => (C.getD v 0).toNat) p := by
  unfold solB
  rw [Bool.and_eq_true, Bool.and_eq_true]
  constructor
  · rintro ⟨⟨h1, h2⟩, h3⟩
    refine ⟨h1, fun p hp => ?_⟩
    rcases hp with rfl | rfl
    · exact (Zjk hV (.inl rfl) (Zg4 h1)).1 h2
    · exact (Zjk hV (.inr rfl) (Zg4 h1)).1 h3
  · rintro ⟨h1, h2⟩
    exact ⟨⟨h1, (Zjk hV (.inl rfl) (Zg4 h1)).2 (h2 0 (.inl rfl))⟩, (Zjk hV (.inr rfl) (Zg4 h1)).2 (h2 1 (.inr rfl))⟩
end
open Go Pl
noncomputable def Zcv : Spec
  | [.agg (.cons (.roI o) (.cons (.roI p) (.cons (.roII x) .nil))), .agg (.cons (.roI w) (.cons (.roI c) .nil))] => some ⟨Zbd ⟨o, p, x⟩ = true, .bool (Zg5 ⟨o, p, x⟩ w c), none⟩
  | _ => none
noncomputable def spCl : Nat → Option Spec
  | 34 => some hasS
  | _ => none
theorem Zcc : SpOK Try.prog spCl := by
  intro f S h
  unfold spCl at h
  split at h
  · cases h; exact has13_ok
  · cases h
set_option maxRecDepth 4000 in
set_option maxHeartbeats 4000000 in
theorem claim_ok : Zby Try.prog 43 Zcv := by
  refine Za4 htb (fn := Try.f43) (by kernel_rfl) (by kernel_rfl) rfl (fun args r hS => ?_) (fun args r hS hob hl => ?_)
  · unfold Zcv at hS; split at hS <;> first | (cases hS; done) | (cases hS; exact Nat.le_of_ble_eq_true rfl)
  unfold Zcv at hS
  split at hS
  case h_2 => cases hS
  rename_i o p x w c
  simp only [Option.some.injEq] at hS
  subst hS
  simp only [lenP, mkL, lim] at hl
  dsimp only at hob
  have hv := hob
  have hG := gok (validB_iff.1 hob)
  have hpl : p.length = o.length := hG.pl
  have hxl : x.length = o.length := hG.xl
  have hn : o.length ≤ 20000 := hG.n
  have hno : ∀ v, v < o.length → ¬ ((w.getD v 0 = 0 ∨ w.getD v 0 = 1) ∧ (o.getD v 0 = w.getD v 0 → c.getD v 0 ∈ x.getD v []) ∧ (o.getD v 0 ≠ w.getD v 0 → c.getD v 0 = -1)) → Zg5 ⟨o, p, x⟩ w c = false := fun v hv h => decide_eq_false fun h2 => h (h2.2.2 v hv)
  repeat' first
    | with_reducible first | apply Zan | apply Zaj | apply Zab | apply Zac | apply Zag | apply Zal | apply Zaf | apply Zah | apply Zam | apply Zao | apply Zak
    | ((with_reducible refine Zap ?_); refine Zai rfl ?_ ?_ <;> intro hb <;> (try simp only [zH] at hb)) | ((with_reducible refine Zaq 2 ?_ ?_); (· exact rfl); (with_reducible refine Zaq 3 ?_ ?_); (· exact rfl); (first | refine Zad htb hmz Zcc fF rfl rfl ?_ | refine Zae hmo htb hmz Zcc fF rfl rfl (by kernel_rfl) ?_); intro _ _ _ _ h; simp only [zE, evp, evx, ev1, evLoad, evStore, evBin, Zaa, forall_const, z38, tb, reduceAdd, reduceSub, reduceMul, reduceEqDiff, reduceLeDiff, reduceLT, Nat.reduceBEq, Nat.reduceBNe, ↓reduceIte, reduceIte, spCl, hasS] at h; obtain ⟨rfl, rfl, rfl, rfl⟩ := h; refine ⟨?_, ?_⟩) | ((with_reducible refine Ob.mk ?_); first | exact trivial | (intros; omega) | ((repeat' first | apply And.intro | (intro a; have b := a; try simp only [zH] at b)) <;> first | assumption | omega | (simp only [zH]; omega)))
  · have hcb : Zg5 ⟨o, p, x⟩ w c = false := decide_eq_false fun h => by
      have h1 : w.length = o.length := h.1
      have h2 : c.length = o.length := h.2.1
      omega
    repeat' first
      | with_reducible first | apply Zan | apply Zaj | apply Zab | apply Zac | apply Zag | apply Zal | apply Zaf | apply Zah | apply Zam | apply Zao | apply Zak
      | ((with_reducible refine Zap ?_); refine Zai rfl ?_ ?_ <;> intro hb <;> (try simp only [zH] at hb)) | ((with_reducible refine Zax ?_); (first | refine Zad htb hmz Zcc fF rfl rfl ?_ | refine Zae hmo htb hmz Zcc fF rfl rfl (by kernel_rfl) ?_); intro _ _ _ _ h; simp only [zE, evp, evx, ev1, evLoad, evStore, evBin, Zaa, forall_const, z38, tb, reduceAdd, reduceSub, reduceMul, reduceEqDiff, reduceLeDiff, reduceLT, Nat.reduceBEq, Nat.reduceBNe, ↓reduceIte, reduceIte, spCl, hasS] at h; obtain ⟨rfl, rfl, rfl, rfl⟩ := h; refine ⟨?_, ?_⟩) | ((with_reducible refine Ob.mk ?_); first | exact trivial | (intros; omega) | ((repeat' first | apply And.intro | (intro a; have b := a; try simp only [zH] at b)) <;> first | assumption | omega | (simp only [zH]; omega)))
    refine Zaw rfl rfl (Zat rfl ?_ rfl)
    rw [hcb]; rfl
  have hwl : w.length = o.length := by omega
  have hcl : c.length = o.length := by omega
  clear hb
  have hrl : ∀ v, v < o.length → (x.getD v []).length ≤ 64 := fun v h => (hG.len v h).2
  repeat' first
    | with_reducible first | apply Zan | apply Zaj | apply Zab | apply Zac | apply Zag | apply Zal | apply Zaf | apply Zah | apply Zam | apply Zao | apply Zak
    | ((with_reducible refine Zap ?_); refine Zai rfl ?_ ?_ <;> intro hb <;> (try simp only [zH] at hb)) | ((with_reducible refine Zax ?_); (first | refine Zad htb hmz Zcc fF rfl rfl ?_ | refine Zae hmo htb hmz Zcc fF rfl rfl (by kernel_rfl) ?_); intro _ _ _ _ h; simp only [zE, evp, evx, ev1, evLoad, evStore, evBin, Zaa, forall_const, z38, tb, reduceAdd, reduceSub, reduceMul, reduceEqDiff, reduceLeDiff, reduceLT, Nat.reduceBEq, Nat.reduceBNe, ↓reduceIte, reduceIte, spCl, hasS] at h; obtain ⟨rfl, rfl, rfl, rfl⟩ := h; refine ⟨?_, ?_⟩) | ((with_reducible refine Ob.mk ?_); first | exact trivial | (intros; omega) | ((repeat' first | apply And.intro | (intro a; have b := a; try simp only [zH] at b)) <;> first | assumption | omega | (simp only [zH]; omega)))
  refine Zau (τ := Nat) (fun i => i ≤ o.length ∧ ∀ v, v < i → (w.getD v 0 = 0 ∨ w.getD v 0 = 1) ∧ (o.getD v 0 = w.getD v 0 → c.getD v 0 ∈ x.getD v []) ∧ (o.getD v 0 ≠ w.getD v 0 → c.getD v 0 = -1)) (fun i => ⟨23, [(26, .int .i64 i), (25, .int .i64 w.length), (24, .roI w), (3, .rop (.agg (.cons (.roI w) (.cons (.roI c) .nil)))), (2, (.rop (.agg (.cons (.roI o) (.cons (.roI p) (.cons (.roII x) .nil))))))], [], []⟩) (fun i => o.length - i) 0 [] ?_ ⟨Nat.zero_le _, fun v hv => absurd hv (Nat.not_lt_zero v)⟩ ?_
  · (refine ⟨rfl, ?_, ?_⟩ <;> simp only [zE, evp, evx, ev1, evLoad, evStore, evBin, Zaa, forall_const, z38, tb, reduceAdd, reduceSub, reduceMul, reduceEqDiff, reduceLeDiff, reduceLT, Nat.reduceBEq, Nat.reduceBNe, ↓reduceIte, reduceIte, spCl, hasS, zI])
  rintro i ⟨hi, hk⟩
  have hno1 := hno i
  have hrl1 := hrl i
  clear hno hrl
  repeat' first
    | with_reducible first | apply Zan | apply Zaj | apply Zab | apply Zac | apply Zag | apply Zal | apply Zaf | apply Zah | apply Zam | apply Zao | apply Zak
    | ((with_reducible refine Zap ?_); refine Zai rfl ?_ ?_ <;> intro hb <;> (try simp only [zH] at hb)) | ((with_reducible refine Zaq 7 ?_ ?_); (· exact rfl); (with_reducible refine Zaq 8 ?_ ?_); (· exact rfl); (first | refine Zad htb hmz Zcc fF rfl rfl ?_ | refine Zae hmo htb hmz Zcc fF rfl rfl (by kernel_rfl) ?_); intro _ _ _ _ h; simp only [zE, evp, evx, ev1, evLoad, evStore, evBin, Zaa, forall_const, z38, tb, reduceAdd, reduceSub, reduceMul, reduceEqDiff, reduceLeDiff, reduceLT, Nat.reduceBEq, Nat.reduceBNe, ↓reduceIte, reduceIte, spCl, hasS] at h; obtain ⟨rfl, rfl, rfl, rfl⟩ := h; refine ⟨?_, ?_⟩) | ((with_reducible refine Ob.mk ?_); first | exact trivial | (intros; omega) | ((repeat' first | apply And.intro | (intro a; have b := a; try simp only [zH] at b)) <;> first | assumption | omega | (simp only [zH]; omega)))
  · rw [hno1 (by omega) fun h => by omega] at *
    repeat' first
      | with_reducible first | apply Zan | apply Zaj | apply Zab | apply Zac | apply Zag | apply Zal | apply Zaf | apply Zah | apply Zam | apply Zao | apply Zak
      | ((with_reducible refine Zap ?_); refine Zai rfl ?_ ?_ <;> intro hb <;> (try simp only [zH] at hb)) | ((with_reducible refine Zax ?_); (first | refine Zad htb hmz Zcc fF rfl rfl ?_ | refine Zae hmo htb hmz Zcc fF rfl rfl (by kernel_rfl) ?_); intro _ _ _ _ h; simp only [zE, evp, evx, ev1, evLoad, evStore, evBin, Zaa, forall_const, z38, tb, reduceAdd, reduceSub, reduceMul, reduceEqDiff, reduceLeDiff, reduceLT, Nat.reduceBEq, Nat.reduceBNe, ↓reduceIte, reduceIte, spCl, hasS] at h; obtain ⟨rfl, rfl, rfl, rfl⟩ := h; refine ⟨?_, ?_⟩) | ((with_reducible refine Ob.mk ?_); first | exact trivial | (intros; omega) | ((repeat' first | apply And.intro | (intro a; have b := a; try simp only [zH] at b)) <;> first | assumption | omega | (simp only [zH]; omega)))
    refine Zaw rfl rfl (Zat rfl ?_ rfl)
    rfl
  · (refine Zae hmo htb hmz Zcc fF rfl rfl (by kernel_rfl) ?_; intro _ _ _ _ h; simp only [zE, evp, evx, ev1, evLoad, evStore, evBin, Zaa, forall_const, z38, tb, reduceAdd, reduceSub, reduceMul, reduceEqDiff, reduceLeDiff, reduceLT, Nat.reduceBEq, Nat.reduceBNe, ↓reduceIte, reduceIte, spCl, hasS] at h; obtain ⟨rfl, rfl, rfl, rfl⟩ := h; refine ⟨?_, ?_⟩)
    · first | ((with_reducible refine Ob.mk ?_); first | exact trivial | (intros; omega) | ((repeat' first | apply And.intro | (intro a; have b := a; try simp only [zH] at b)) <;> first | assumption | omega | (simp only [zH]; omega))) | skip
    repeat' first
      | with_reducible first | apply Zan | apply Zaj | apply Zab | apply Zac | apply Zag | apply Zal | apply Zaf | apply Zah | apply Zam | apply Zao | apply Zak
      | ((with_reducible refine Zap ?_); refine Zai rfl ?_ ?_ <;> intro hb <;> (try simp only [zH] at hb)) | ((with_reducible refine Zaq 9 ?_ ?_); (· exact rfl); (with_reducible refine Zaq 10 ?_ ?_); (· exact rfl); (first | refine Zad htb hmz Zcc fF rfl rfl ?_ | refine Zae hmo htb hmz Zcc fF rfl rfl (by kernel_rfl) ?_); intro _ _ _ _ h; simp only [zE, evp, evx, ev1, evLoad, evStore, evBin, Zaa, forall_const, z38, tb, reduceAdd, reduceSub, reduceMul, reduceEqDiff, reduceLeDiff, reduceLT, Nat.reduceBEq, Nat.reduceBNe, ↓reduceIte, reduceIte, spCl, hasS] at h; obtain ⟨rfl, rfl, rfl, rfl⟩ := h; refine ⟨?_, ?_⟩) | ((with_reducible refine Ob.mk ?_); first | exact trivial | (intros; omega) | ((repeat' first | apply And.intro | (intro a; have b := a; try simp only [zH] at b)) <;> first | assumption | omega | (simp only [zH]; omega)))
    · rename_i hb1
      repeat' first
        | with_reducible first | apply Zan | apply Zaj | apply Zab | apply Zac | apply Zag | apply Zal | apply Zaf | apply Zah | apply Zam | apply Zao | apply Zak
        | ((with_reducible refine Zap ?_); refine Zai rfl ?_ ?_ <;> intro hb <;> (try simp only [zH] at hb)) | ((with_reducible refine Zax ?_); (first | refine Zad htb hmz Zcc fF rfl rfl ?_ | refine Zae hmo htb hmz Zcc fF rfl rfl (by kernel_rfl) ?_); intro _ _ _ _ h; simp only [zE, evp, evx, ev1, evLoad, evStore, evBin, Zaa, forall_const, z38, tb, reduceAdd, reduceSub, reduceMul, reduceEqDiff, reduceLeDiff, reduceLT, Nat.reduceBEq, Nat.reduceBNe, ↓reduceIte, reduceIte, spCl, hasS] at h; obtain ⟨rfl, rfl, rfl, rfl⟩ := h; refine ⟨?_, ?_⟩) | ((with_reducible refine Ob.mk ?_); first | exact trivial | (intros; omega) | ((repeat' first | apply And.intro | (intro a; have b := a; try simp only [zH] at b)) <;> first | assumption | omega | (simp only [zH]; omega)))
      refine Zaw rfl rfl (Zat rfl ?_ rfl)
      rw [hno1 (by omega) fun h => hb.2 (h.2.1 hb.1)]
      rfl
    rename_i hb1
    repeat' first
      | with_reducible first | apply Zan | apply Zaj | apply Zab | apply Zac | apply Zag | apply Zal | apply Zaf | apply Zah | apply Zam | apply Zao | apply Zak
      | ((with_reducible refine Zap ?_); refine Zai rfl ?_ ?_ <;> intro hb <;> (try simp only [zH] at hb)) | ((with_reducible refine Zax ?_); (first | refine Zad htb hmz Zcc fF rfl rfl ?_ | refine Zae hmo htb hmz Zcc fF rfl rfl (by kernel_rfl) ?_); intro _ _ _ _ h; simp only [zE, evp, evx, ev1, evLoad, evStore, evBin, Zaa, forall_const, z38, tb, reduceAdd, reduceSub, reduceMul, reduceEqDiff, reduceLeDiff, reduceLT, Nat.reduceBEq, Nat.reduceBNe, ↓reduceIte, reduceIte, spCl, hasS] at h; obtain ⟨rfl, rfl, rfl, rfl⟩ := h; refine ⟨?_, ?_⟩) | ((with_reducible refine Ob.mk ?_); first | exact trivial | (intros; omega) | ((repeat' first | apply And.intro | (intro a; have b := a; try simp only [zH] at b)) <;> first | assumption | omega | (simp only [zH]; omega)))
    · refine Zaw rfl rfl (Zat rfl ?_ rfl)
      rw [hno1 (by omega) fun h => hb.2 (h.2.2 hb.1)]
      rfl
    · rename_i hb2
      refine back (i + 1) [] ?_ ⟨by omega, fun v hv => ?_⟩ (by omega)
      · (refine ⟨rfl, ?_, ?_⟩ <;> simp only [zE, evp, evx, ev1, evLoad, evStore, evBin, Zaa, forall_const, z38, tb, reduceAdd, reduceSub, reduceMul, reduceEqDiff, reduceLeDiff, reduceLT, Nat.reduceBEq, Nat.reduceBNe, ↓reduceIte, reduceIte, spCl, hasS, zI])
      · rcases Nat.lt_succ_iff_lt_or_eq.1 hv with h | rfl
        · exact hk v h
        · refine ⟨by omega, fun h => ?_, fun h => ?_⟩
          · rcases hb2 with h2 | h2
            · exact absurd h h2
            · exact h2
          · rcases hb with h2 | h2
            · exact absurd h2 h
            · exact h2
  have hie : i = o.length := by omega
  subst hie
  refine Zaw rfl rfl (Zat rfl ?_ rfl)
  have hcb : Zg5 ⟨o, p, x⟩ w c = true := decide_eq_true ⟨hwl, hcl, hk⟩
  rw [hcb]
  rfl
noncomputable def folR (g : Gm) (W C : List Int) (p : Int) : Gm := if cloB g W C p = true then folG g W C p else ⟨[], [], []⟩
noncomputable def folS : Spec
  | [.agg (.cons (.roI o) (.cons (.roI p) (.cons (.roII x) .nil))), .agg (.cons (.roI w) (.cons (.roI c) .nil)), .int .i64 pl] =>
    some ⟨Zbd ⟨o, p, x⟩ = true ∧ w.length = o.length ∧ c.length = o.length ∧ (∀ v, v < o.length → w.getD v 0 = pl → o.getD v 0 = pl → c.getD v 0 ∈ x.getD v []), .tup (.cons (gmA (folR ⟨o, p, x⟩ w c pl)) (.cons (.bool (cloB ⟨o, p, x⟩ w c pl)) .nil)), none⟩
  | _ => none
set_option maxRecDepth 4000 in
set_option maxHeartbeats 4000000 in
theorem follow_ok : Zby Try.prog 44 folS := by
  refine Za4 htb (fn := Try.f44) (by kernel_rfl) (by kernel_rfl) rfl (fun args r hS => ?_) (fun args r hS hob hl => ?_)
  · unfold folS at hS; split at hS <;> first | (cases hS; done) | (cases hS; exact Nat.le_of_ble_eq_true rfl)
  unfold folS at hS
  split at hS
  case h_2 => cases hS
  rename_i o p x w c pl
  simp only [Option.some.injEq] at hS
  subst hS
  simp only [lenP, mkL, lim] at hl
  dsimp only at hob
  obtain ⟨hv, hwl, hcl, hcc⟩ := hob
  have hG := gok (validB_iff.1 hv)
  have hpl : p.length = o.length := hG.pl
  have hxl : x.length = o.length := hG.xl
  have hn : o.length ≤ 20000 := hG.n
  obtain ⟨k, hk⟩ : ∃ k, selL ⟨o, p, x⟩ w pl = k := ⟨_, rfl⟩
  have hkl : k.length = o.length := by rw [← hk]; simp [selL]
  have hki : ∀ v, v < o.length → (k.getD v false = true ↔ w.getD v 0 = pl) := fun v hv => by rw [← hk]; exact Zed (g := ⟨o, p, x⟩) hv
  repeat' first
    | with_reducible first | apply Zan | apply Zaj | apply Zab | apply Zac | apply Zag | apply Zal | apply Zaf | apply Zah | apply Zam | apply Zao | apply Zak
    | ((with_reducible refine Zap ?_); refine Zai rfl ?_ ?_ <;> intro hb <;> (try simp only [zH] at hb)) | ((with_reducible refine Zax ?_); (first | refine Zad htb hmz noSp fF rfl rfl ?_ | refine Zae hmo htb hmz noSp fF rfl rfl (by kernel_rfl) ?_); intro _ _ _ _ h; simp only [zE, evp, evx, ev1, evLoad, evStore, evBin, Zaa, forall_const, z38, tb, reduceAdd, reduceSub, reduceMul, reduceEqDiff, reduceLeDiff, reduceLT, Nat.reduceBEq, Nat.reduceBNe, ↓reduceIte, reduceIte] at h; obtain ⟨rfl, rfl, rfl, rfl⟩ := h; refine ⟨?_, ?_⟩) | ((with_reducible refine Ob.mk ?_); first | exact trivial | (intros; omega) | ((repeat' first | apply And.intro | (intro a; have b := a; try simp only [zH] at b)) <;> first | assumption | omega | (simp only [zH]; omega)))
  refine awp_nilown 9 (.ints []) (by simp only [zE, evp, evx, ev1, evLoad, evStore, evBin, Zaa, forall_const, z38, tb, reduceAdd, reduceSub, reduceMul, reduceEqDiff, reduceLeDiff, reduceLT, Nat.reduceBEq, Nat.reduceBNe, ↓reduceIte, reduceIte]) (.inl rfl) rfl ?_
  refine Zau (τ := Nat) (fun i => i ≤ o.length) (fun i => ⟨15, [(25, .int .i64 i), (24, .int .i64 o.length), (9, .own 14), (8, .own 7), (7, .bool false), (6, .own 2), (4, (.rop (.agg (.cons (.roI w) (.cons (.roI c) .nil))))), (3, (.rop (.agg (.cons (.roI o) (.cons (.roI p) (.cons (.roII x) .nil)))))), (2, .int .i64 pl)], [(14, some (.ints ((kp k i).map fun v : Nat => (v : Int)))), (2, some (.box (.agg (.cons (.cst (.slice none 0 0)) (.cons (.cst (.slice none 0 0)) (.cons (.cst (.slice none 0 0)) .nil)))))), (7, some (.ints (mix (nmF k) (fun _ => 0) o.length i)))], []⟩) (fun i => o.length - i) 0 [] ?_ (Nat.zero_le _) ?_
  · (refine ⟨rfl, ?_, ?_⟩ <;> simp only [zE, evp, evx, ev1, evLoad, evStore, evBin, Zaa, forall_const, z38, tb, reduceAdd, reduceSub, reduceMul, reduceEqDiff, reduceLeDiff, reduceLT, Nat.reduceBEq, Nat.reduceBNe, ↓reduceIte, reduceIte, zI])
    refine ⟨rfl, ?_⟩
    exact List.ext_getElem (by simp [mix]) fun j h1 h2 => by simp [mix]
  intro i hi
  have hml : (mix (nmF k) (fun _ => 0) o.length i).length = o.length := Zcl
  have hml2 : ((mix (nmF k) (fun _ => 0) o.length i).set i (-1)).length = o.length := by rw [List.length_set, hml]
  have hkl3 := Zin (k := k) (n := i)
  have hkl4 : ((kp k i).map fun v : Nat => (v : Int)).length = (kp k i).length := List.length_map ..
  have hms : (mix (nmF k) (fun _ => 0) o.length i).set i (nmF k i) = mix (nmF k) (fun _ => 0) o.length (i + 1) := Zb6
  have hki1 := hki i
  repeat' first
    | with_reducible first | apply Zan | apply Zaj | apply Zab | apply Zac | apply Zag | apply Zal | apply Zaf | apply Zah | apply Zam | apply Zao | apply Zak
    | ((with_reducible refine Zap ?_); refine Zai rfl ?_ ?_ <;> intro hb <;> (try simp only [zH] at hb)) | ((with_reducible refine Zaq 11 ?_ ?_); (· exact rfl); (first | refine Zad htb hmz noSp fF rfl rfl ?_ | refine Zae hmo htb hmz noSp fF rfl rfl (by kernel_rfl) ?_); intro _ _ _ _ h; simp only [zE, evp, evx, ev1, evLoad, evStore, evBin, Zaa, forall_const, z38, tb, reduceAdd, reduceSub, reduceMul, reduceEqDiff, reduceLeDiff, reduceLT, Nat.reduceBEq, Nat.reduceBNe, ↓reduceIte, reduceIte] at h; obtain ⟨rfl, rfl, rfl, rfl⟩ := h; refine ⟨?_, ?_⟩) | ((with_reducible refine Ob.mk ?_); first | exact trivial | (intros; omega) | ((repeat' first | apply And.intro | (intro a; have b := a; try simp only [zH] at b)) <;> first | assumption | omega | (simp only [zH]; omega)))
  · have hkt := (hki1 (by omega)).2 hb
    refine back (i + 1) [(14, 38)] ?_ (by omega) (by omega)
    (refine ⟨rfl, ?_, ?_⟩ <;> simp only [zE, evp, evx, ev1, evLoad, evStore, evBin, Zaa, forall_const, z38, tb, reduceAdd, reduceSub, reduceMul, reduceEqDiff, reduceLeDiff, reduceLT, Nat.reduceBEq, Nat.reduceBNe, ↓reduceIte, reduceIte, zI])
    refine ⟨?_, ?_⟩
    · rw [Zh4, if_pos hkt, List.map_append]; rfl
    · rw [List.set_set, hkl4, ← hms]
      unfold nmF
      rw [if_pos hkt]
  · have hkf : k.getD i false ≠ true := fun h => hb ((hki1 (by omega)).1 h)
    refine back (i + 1) [] ?_ (by omega) (by omega)
    (refine ⟨rfl, ?_, ?_⟩ <;> simp only [zE, evp, evx, ev1, evLoad, evStore, evBin, Zaa, forall_const, z38, tb, reduceAdd, reduceSub, reduceMul, reduceEqDiff, reduceLeDiff, reduceLT, Nat.reduceBEq, Nat.reduceBNe, ↓reduceIte, reduceIte, zI])
    refine ⟨?_, ?_⟩
    · rw [Zh4, if_neg hkf]
    · rw [← hms]
      unfold nmF
      rw [if_neg hkf]
  have hie : i = o.length := by omega
  subst hie
  rw [Zb7]
  have hnl : ((List.range o.length).map (nmF k)).length = o.length := by simp
  have hnm : ∀ v, v < o.length → ((List.range o.length).map (nmF k)).getD v 0 = nmF k v := fun v h => by
    simp [List.getD_eq_getElem?_getD, h]
  have hkp : ∀ j, j < (kp k o.length).length → ((kp k o.length).map fun v : Nat => (v : Int)).getD j 0 = ((kp k o.length).getD j 0 : Nat) ∧ (kp k o.length).getD j 0 < o.length ∧ w.getD ((kp k o.length).getD j 0) 0 = pl := fun j h => by
    have := Zjx h
    refine ⟨?_, this.1, (hki _ this.1).1 this.2⟩
    simp [List.getD_eq_getElem?_getD, List.getElem?_eq_getElem h]
  have hnf : ∀ v, v < o.length → (nmF k v < 0 ↔ w.getD v 0 ≠ pl) ∧ -1 ≤ nmF k v ∧ nmF k v ≤ 20000 := fun v hv => by
    have h1 := hki v hv
    have h2 := Zin (k := k) (n := v)
    unfold nmF
    split
    · rename_i h
      exact ⟨⟨fun h3 => by omega, fun h3 => absurd (h1.1 h) h3⟩, by omega, by omega⟩
    · rename_i h
      exact ⟨⟨fun _ h3 => h (h1.2 h3), fun _ => by omega⟩, by omega, by omega⟩
  have hkpl := Zin (k := k) (n := o.length)
  have hol : ((kp k o.length).map fun v : Nat => (v : Int)).length = (kp k o.length).length := List.length_map ..
  have hsel : ∀ v, v < o.length → w.getD v 0 = pl → v ∈ kp k o.length := fun v hv hw => List.mem_filter.2 ⟨List.mem_range.2 hv, (hki v hv).2 hw⟩
  have hfol : folG ⟨o, p, x⟩ w c pl = ⟨(kp k o.length).map fun v => o.getD v 0, (kp k o.length).map fun v => p.getD v 0, (kp k o.length).map fun v => (nxF ⟨o, p, x⟩ c pl v).map fun t => nmF k t.toNat⟩ := by rw [← hk]; rfl
  have hnx : ∀ v, nxF ⟨o, p, x⟩ c pl v = if o.getD v 0 = pl then [c.getD v 0] else x.getD v [] := fun v => rfl
  have hnb : ∀ v, v < o.length → w.getD v 0 = pl → ∀ t, t ∈ nxF ⟨o, p, x⟩ c pl v → 0 ≤ t ∧ t < o.length := fun v hv hw t ht => (Zgy (W := w) hG hcc hv hw ht).2
  have hnl64 : ∀ v, v < o.length → (nxF ⟨o, p, x⟩ c pl v).length ≤ 64 := fun v hv => by
    rw [hnx]; split
    · show 1 ≤ 64; decide
    · exact (hG.len v hv).2
  generalize (List.range o.length).map (nmF k) = nl at *
  generalize hee : (kp k o.length).map (fun v : Nat => (v : Int)) = ol at *
  generalize kp k o.length = kl at *
  generalize hNX : nxF ⟨o, p, x⟩ c pl = nx at *
  clear hki hki1 hml hml2 hkl3 hkl4 hms
  refine Za9 14 (.roI ol) (by simp only [Zar, Zas, fzE, fzA, fzR, fzB, set1, nbeq, reduceEqDiff, decide_true, decide_false, ↓reduceIte, reduceIte, cond_true, cond_false, List.take_length, Option.some.injEq]; rfl) (by first | exact rfl | (refine ⟨?_, rfl⟩; first | rfl | (intros; rfl))) (by simp only [Zar, Zas, fzE, fzA, fzR, fzB, set1, nbeq, reduceEqDiff, decide_true, decide_false, ↓reduceIte, reduceIte, cond_true, cond_false, List.take_length, Option.some.injEq]; rfl) (by simp only [Zar, Zas, fzE, fzA, fzR, fzB, set1, nbeq, reduceEqDiff, decide_true, decide_false, ↓reduceIte, reduceIte, cond_true, cond_false, List.take_length, Option.some.injEq]; rfl) ?_
  refine Za9 7 (.roI nl) (by simp only [Zar, Zas, fzE, fzA, fzR, fzB, set1, nbeq, reduceEqDiff, decide_true, decide_false, ↓reduceIte, reduceIte, cond_true, cond_false, List.take_length, Option.some.injEq]; rfl) (by first | exact rfl | (refine ⟨?_, rfl⟩; first | rfl | (intros; rfl))) (by simp only [Zar, Zas, fzE, fzA, fzR, fzB, set1, nbeq, reduceEqDiff, decide_true, decide_false, ↓reduceIte, reduceIte, cond_true, cond_false, List.take_length, Option.some.injEq]; rfl) (by simp only [Zar, Zas, fzE, fzA, fzR, fzB, set1, nbeq, reduceEqDiff, decide_true, decide_false, ↓reduceIte, reduceIte, cond_true, cond_false, List.take_length, Option.some.injEq]; rfl) ?_
  repeat' first
    | with_reducible first | apply Zan | apply Zaj | apply Zab | apply Zac | apply Zag | apply Zal | apply Zaf | apply Zah | apply Zam | apply Zao | apply Zak
    | ((with_reducible refine Zap ?_); refine Zai rfl ?_ ?_ <;> intro hb <;> (try simp only [zH] at hb)) | ((with_reducible refine Zax ?_); (first | refine Zad htb hmz noSp fF rfl rfl ?_ | refine Zae hmo htb hmz noSp fF rfl rfl (by kernel_rfl) ?_); intro _ _ _ _ h; simp only [zE, evp, evx, ev1, evLoad, evStore, evBin, Zaa, forall_const, z38, tb, reduceAdd, reduceSub, reduceMul, reduceEqDiff, reduceLeDiff, reduceLT, Nat.reduceBEq, Nat.reduceBNe, ↓reduceIte, reduceIte] at h; obtain ⟨rfl, rfl, rfl, rfl⟩ := h; refine ⟨?_, ?_⟩) | ((with_reducible refine Ob.mk ?_); first | exact trivial | (intros; omega) | ((repeat' first | apply And.intro | (intro a; have b := a; try simp only [zH] at b)) <;> first | assumption | omega | (simp only [zH]; omega)))
  refine Zf2 16 (.ints []) (.agg (.cons (.own 20) (.cons (.cst (.slice none 0 0)) (.cons (.cst (.slice none 0 0)) .nil)))) rfl rfl rfl (by first | exact .inl rfl | exact .inr (.inl rfl) | exact .inr (.inr (.inl rfl)) | exact .inr (.inr (.inr rfl))) (by simp only [Zar, Zas, fzE, fzA, fzR, fzB, set1, nbeq, reduceEqDiff, decide_true, decide_false, ↓reduceIte, reduceIte, cond_true, cond_false, List.take_length, Option.some.injEq] <;> rfl) rfl ?_
  refine Zf2 16 (.ints []) (.agg (.cons (.own 20) (.cons (.own 21) (.cons (.cst (.slice none 0 0)) .nil)))) rfl rfl rfl (by first | exact .inl rfl | exact .inr (.inl rfl) | exact .inr (.inr (.inl rfl)) | exact .inr (.inr (.inr rfl))) (by simp only [Zar, Zas, fzE, fzA, fzR, fzB, set1, nbeq, reduceEqDiff, decide_true, decide_false, ↓reduceIte, reduceIte, cond_true, cond_false, List.take_length, Option.some.injEq] <;> rfl) rfl ?_
  refine Zf2 16 (.rowsR []) (.agg (.cons (.own 20) (.cons (.own 21) (.cons (.own 22) .nil)))) rfl rfl rfl (by first | exact .inl rfl | exact .inr (.inl rfl) | exact .inr (.inr (.inl rfl)) | exact .inr (.inr (.inr rfl))) (by simp only [Zar, Zas, fzE, fzA, fzR, fzB, set1, nbeq, reduceEqDiff, decide_true, decide_false, ↓reduceIte, reduceIte, cond_true, cond_false, List.take_length, Option.some.injEq] <;> rfl) rfl ?_
  refine Zau (τ := Nat) (fun j => j ≤ ol.length ∧ ∀ i, i < j → ∀ t, t ∈ nx (kl.getD i 0) → w.getD t.toNat 0 = pl) (fun j => ⟨23, [(50, .int .i64 j), (49, .int .i64 ol.length), (48, .roI ol), (11, .own 16), (8, .roI nl), (7, .bool false), (6, .own 2), (4, (.rop (.agg (.cons (.roI w) (.cons (.roI c) .nil))))), (3, (.rop (.agg (.cons (.roI o) (.cons (.roI p) (.cons (.roII x) .nil)))))), (2, .int .i64 pl)], [(20, some (.ints ((kl.take j).map fun v => o.getD v 0))), (21, some (.ints ((kl.take j).map fun v => p.getD v 0))), (22, some (.rowsR ((kl.take j).map fun v => (nx v).map fun t => nmF k t.toNat))), (16, some (.box (.agg (.cons (.own 20) (.cons (.own 21) (.cons (.own 22) .nil)))))), (2, some (.box (.agg (.cons (.cst (.slice none 0 0)) (.cons (.cst (.slice none 0 0)) (.cons (.cst (.slice none 0 0)) .nil))))))], []⟩) (fun j => ol.length - j) 0 [] ?_ ⟨Nat.zero_le _, fun i hi => absurd hi (Nat.not_lt_zero i)⟩ ?_
  · refine ⟨rfl, ?_, ?_⟩ <;> simp only [zE, evp, evx, ev1, evLoad, evStore, evBin, Zaa, forall_const, z38, tb, reduceAdd, reduceSub, reduceMul, reduceEqDiff, reduceLeDiff, reduceLT, Nat.reduceBEq, Nat.reduceBNe, ↓reduceIte, reduceIte, zI, List.take_zero]
  rintro j ⟨hj, hok⟩
  have hkp1 := hkp j
  generalize hvv : kl.getD j 0 = v at *
  repeat' first
    | with_reducible first | apply Zan | apply Zaj | apply Zab | apply Zac | apply Zag | apply Zal | apply Zaf | apply Zah | apply Zam | apply Zao | apply Zak
    | ((with_reducible refine Zap ?_); refine Zai rfl ?_ ?_ <;> intro hb <;> (try simp only [zH] at hb)) | ((with_reducible refine Zaq 15 ?_ ?_); (· exact rfl); (with_reducible refine Zaq 30 ?_ ?_); (· exact rfl); (first | refine Zad htb hmz noSp fF rfl rfl ?_ | refine Zae hmo htb hmz noSp fF rfl rfl (by kernel_rfl) ?_); intro _ _ _ _ h; simp only [zE, evp, evx, ev1, evLoad, evStore, evBin, Zaa, forall_const, z38, tb, reduceAdd, reduceSub, reduceMul, reduceEqDiff, reduceLeDiff, reduceLT, Nat.reduceBEq, Nat.reduceBNe, ↓reduceIte, reduceIte] at h; obtain ⟨rfl, rfl, rfl, rfl⟩ := h; refine ⟨?_, ?_⟩) | ((with_reducible refine Ob.mk ?_); first | exact trivial | (intros; omega) | ((repeat' first | apply And.intro | (intro a; have b := a; try simp only [zH] at b)) <;> first | assumption | omega | (simp only [zH]; omega)))
  · have hjl : j < kl.length := by omega
    obtain ⟨hov, hvo, hwv⟩ := hkp1 hjl
    rw [hov]
    have hlk : (kl.take j).length = j := by rw [List.length_take]; omega
    have hl1 : ((kl.take j).map fun v => o.getD v 0).length = j := by rw [List.length_map, hlk]
    have hl2 : ((kl.take j).map fun v => p.getD v 0).length = j := by rw [List.length_map, hlk]
    have hl3 : ((kl.take j).map fun v => (nx v).map fun t => nmF k t.toNat).length = j := by rw [List.length_map, hlk]
    have hv0 : ((v : Nat) : Int).toNat = v := Int.toNat_natCast v
    have hnv := hnb v hvo hwv
    have hnl64v := hnl64 v hvo
    have hnxv := hnx v
    have hnw : ∀ r, r < (nx v).length → (0 ≤ (nx v).getD r 0 ∧ (nx v).getD r 0 < o.length) ∧ (nx v).getD r 0 ∈ nx v := fun r hr => by
      have hm : (nx v).getD r 0 ∈ nx v := by
        rw [List.getD_eq_getElem?_getD, List.getElem?_eq_getElem hr]; exact List.getElem_mem hr
      exact ⟨hnv _ hm, hm⟩
    clear hnb hnl64 hkp hcc hkp1 hnx
    repeat' first
      | with_reducible first | apply Zan | apply Zaj | apply Zab | apply Zac | apply Zag | apply Zal | apply Zaf | apply Zah | apply Zam | apply Zao | apply Zak
      | ((with_reducible refine Zap ?_); refine Zai rfl ?_ ?_ <;> intro hb <;> (try simp only [zH] at hb)) | ((with_reducible refine Zaq 18 ?_ ?_); (· exact rfl); (first | refine Zad htb hmz noSp fF rfl rfl ?_ | refine Zae hmo htb hmz noSp fF rfl rfl (by kernel_rfl) ?_); intro _ _ _ _ h; simp only [zE, evp, evx, ev1, evLoad, evStore, evBin, Zaa, forall_const, z38, tb, reduceAdd, reduceSub, reduceMul, reduceEqDiff, reduceLeDiff, reduceLT, Nat.reduceBEq, Nat.reduceBNe, ↓reduceIte, reduceIte] at h; obtain ⟨rfl, rfl, rfl, rfl⟩ := h; refine ⟨?_, ?_⟩) | ((with_reducible refine Ob.mk ?_); first | exact trivial | (intros; omega) | ((repeat' first | apply And.intro | (intro a; have b := a; try simp only [zH] at b)) <;> first | assumption | omega | (simp only [zH]; omega)))
    refine Zg6 ⟨60, [(14, .roI (nx v)), (13, .int .i64 v), (50, .int .i64 j), (49, .int .i64 ol.length), (48, .roI ol), (11, .own 16), (8, .roI nl), (7, .bool false), (6, .own 2), (4, (.rop (.agg (.cons (.roI w) (.cons (.roI c) .nil))))), (3, (.rop (.agg (.cons (.roI o) (.cons (.roI p) (.cons (.roII x) .nil)))))), (2, .int .i64 pl)], [(20, some (.ints ((kl.take j).map fun v => o.getD v 0))), (21, some (.ints ((kl.take j).map fun v => p.getD v 0))), (22, some (.rowsR ((kl.take j).map fun v => (nx v).map fun t => nmF k t.toNat))), (16, some (.box (.agg (.cons (.own 20) (.cons (.own 21) (.cons (.own 22) .nil)))))), (2, some (.box (.agg (.cons (.cst (.slice none 0 0)) (.cons (.cst (.slice none 0 0)) (.cons (.cst (.slice none 0 0)) .nil))))))], []⟩ [] ?_ ?_
    · (refine ⟨rfl, ?_, ?_⟩ <;> simp only [zE, evp, evx, ev1, evLoad, evStore, evBin, Zaa, forall_const, z38, tb, reduceAdd, reduceSub, reduceMul, reduceEqDiff, reduceLeDiff, reduceLT, Nat.reduceBEq, Nat.reduceBNe, ↓reduceIte, reduceIte, zI])
      rw [hnxv, if_pos hb]
    rotate_left
    refine Zg6 ⟨60, [(14, .roI (nx v)), (13, .int .i64 v), (50, .int .i64 j), (49, .int .i64 ol.length), (48, .roI ol), (11, .own 16), (8, .roI nl), (7, .bool false), (6, .own 2), (4, (.rop (.agg (.cons (.roI w) (.cons (.roI c) .nil))))), (3, (.rop (.agg (.cons (.roI o) (.cons (.roI p) (.cons (.roII x) .nil)))))), (2, .int .i64 pl)], [(20, some (.ints ((kl.take j).map fun v => o.getD v 0))), (21, some (.ints ((kl.take j).map fun v => p.getD v 0))), (22, some (.rowsR ((kl.take j).map fun v => (nx v).map fun t => nmF k t.toNat))), (16, some (.box (.agg (.cons (.own 20) (.cons (.own 21) (.cons (.own 22) .nil)))))), (2, some (.box (.agg (.cons (.cst (.slice none 0 0)) (.cons (.cst (.slice none 0 0)) (.cons (.cst (.slice none 0 0)) .nil))))))], []⟩ [] ?_ ?_
    · (refine ⟨rfl, ?_, ?_⟩ <;> simp only [zE, evp, evx, ev1, evLoad, evStore, evBin, Zaa, forall_const, z38, tb, reduceAdd, reduceSub, reduceMul, reduceEqDiff, reduceLeDiff, reduceLT, Nat.reduceBEq, Nat.reduceBNe, ↓reduceIte, reduceIte, zI])
      rw [hnxv, if_neg hb]
    all_goals clear hb hnxv
    all_goals
      repeat' first
        | with_reducible first | apply Zan | apply Zaj | apply Zab | apply Zac | apply Zag | apply Zal | apply Zaf | apply Zah | apply Zam | apply Zao | apply Zak
        | ((with_reducible refine Zap ?_); refine Zai rfl ?_ ?_ <;> intro hb <;> (try simp only [zH] at hb)) | ((with_reducible refine Zax ?_); (first | refine Zad htb hmz noSp fF rfl rfl ?_ | refine Zae hmo htb hmz noSp fF rfl rfl (by kernel_rfl) ?_); intro _ _ _ _ h; simp only [zE, evp, evx, ev1, evLoad, evStore, evBin, Zaa, forall_const, z38, tb, reduceAdd, reduceSub, reduceMul, reduceEqDiff, reduceLeDiff, reduceLT, Nat.reduceBEq, Nat.reduceBNe, ↓reduceIte, reduceIte] at h; obtain ⟨rfl, rfl, rfl, rfl⟩ := h; refine ⟨?_, ?_⟩) | ((with_reducible refine Ob.mk ?_); first | exact trivial | (intros; omega) | ((repeat' first | apply And.intro | (intro a; have b := a; try simp only [zH] at b)) <;> first | assumption | omega | (simp only [zH]; omega)))
      refine awp_nilown 15 (.ints []) (by simp only [zE, evp, evx, ev1, evLoad, evStore, evBin, Zaa, forall_const, z38, tb, reduceAdd, reduceSub, reduceMul, reduceEqDiff, reduceLeDiff, reduceLT, Nat.reduceBEq, Nat.reduceBNe, ↓reduceIte, reduceIte]) (.inl rfl) rfl ?_
      refine Zau (τ := Nat) (fun r => r ≤ (nx v).length ∧ ∀ i, i < r → w.getD ((nx v).getD i 0).toNat 0 = pl) (fun r => ⟨65, [(74, .int .i64 r), (73, .int .i64 (nx v).length), (72, .roI (nx v)), (15, .own 64), (13, .int .i64 v), (50, .int .i64 j), (49, .int .i64 ol.length), (48, .roI ol), (11, .own 16), (8, .roI nl), (7, .bool false), (6, .own 2), (4, (.rop (.agg (.cons (.roI w) (.cons (.roI c) .nil))))), (3, (.rop (.agg (.cons (.roI o) (.cons (.roI p) (.cons (.roII x) .nil)))))), (2, .int .i64 pl)], [(64, some (.ints (((nx v).take r).map fun t => nmF k t.toNat))), (20, some (.ints ((kl.take j).map fun v => o.getD v 0))), (21, some (.ints ((kl.take j).map fun v => p.getD v 0))), (22, some (.rowsR ((kl.take j).map fun v => (nx v).map fun t => nmF k t.toNat))), (16, some (.box (.agg (.cons (.own 20) (.cons (.own 21) (.cons (.own 22) .nil)))))), (2, some (.box (.agg (.cons (.cst (.slice none 0 0)) (.cons (.cst (.slice none 0 0)) (.cons (.cst (.slice none 0 0)) .nil))))))], []⟩) (fun r => (nx v).length - r) 0 [] ?_ ⟨Nat.zero_le _, fun i hi => absurd hi (Nat.not_lt_zero i)⟩ ?_
      · refine ⟨rfl, ?_, ?_⟩ <;> simp only [zE, evp, evx, ev1, evLoad, evStore, evBin, Zaa, forall_const, z38, tb, reduceAdd, reduceSub, reduceMul, reduceEqDiff, reduceLeDiff, reduceLT, Nat.reduceBEq, Nat.reduceBNe, ↓reduceIte, reduceIte, zI, List.take_zero, List.map_nil]
      rintro r ⟨hr, hwr⟩
      have hnw1 := hnw r
      have hnm1 : r < (nx v).length → nl.getD ((nx v).getD r 0).toNat 0 = nmF k ((nx v).getD r 0).toNat ∧ ((nmF k ((nx v).getD r 0).toNat < 0 ↔ w.getD ((nx v).getD r 0).toNat 0 ≠ pl) ∧ -1 ≤ nmF k ((nx v).getD r 0).toNat ∧ nmF k ((nx v).getD r 0).toNat ≤ 20000) := fun h => by
        have := (hnw1 h).1
        exact ⟨hnm _ (by omega), hnf _ (by omega)⟩
      have htl : (((nx v).take r).map fun t => nmF k t.toNat).length = r := by rw [List.length_map, List.length_take]; omega
      have htn : r < (nx v).length → ((nx v).take (r + 1)).map (fun t => nmF k t.toNat) = (((nx v).take r).map fun t => nmF k t.toNat) ++ [nmF k ((nx v).getD r 0).toNat] := fun h => by
        rw [Zf7 (d := 0) h, List.map_append]; rfl
      repeat' first
        | with_reducible first | apply Zan | apply Zaj | apply Zab | apply Zac | apply Zag | apply Zal | apply Zaf | apply Zah | apply Zam | apply Zao | apply Zak
        | ((with_reducible refine Zap ?_); refine Zai rfl ?_ ?_ <;> intro hb <;> (try simp only [zH] at hb)) | ((with_reducible refine Zaq 23 ?_ ?_); (· exact rfl); (with_reducible refine Zaq 26 ?_ ?_); (· exact rfl); (first | refine Zad htb hmz noSp fF rfl rfl ?_ | refine Zae hmo htb hmz noSp fF rfl rfl (by kernel_rfl) ?_); intro _ _ _ _ h; simp only [zE, evp, evx, ev1, evLoad, evStore, evBin, Zaa, forall_const, z38, tb, reduceAdd, reduceSub, reduceMul, reduceEqDiff, reduceLeDiff, reduceLT, Nat.reduceBEq, Nat.reduceBNe, ↓reduceIte, reduceIte] at h; obtain ⟨rfl, rfl, rfl, rfl⟩ := h; refine ⟨?_, ?_⟩) | ((with_reducible refine Ob.mk ?_); first | exact trivial | (intros; omega) | ((repeat' first | apply And.intro | (intro a; have b := a; try simp only [zH] at b)) <;> first | assumption | omega | (simp only [zH]; omega)))
      · have hrl : r < (nx v).length := by omega
        have hne := (hnm1 hrl).2.1.1 (by rw [← (hnm1 hrl).1]; exact hb)
        have hcf : cloB ⟨o, p, x⟩ w c pl = false := decide_eq_false fun h => hne (h v hvo hwv _ (by rw [hNX]; exact (hnw1 hrl).2))
        repeat' first
          | with_reducible first | apply Zan | apply Zaj | apply Zab | apply Zac | apply Zag | apply Zal | apply Zaf | apply Zah | apply Zam | apply Zao | apply Zak
          | ((with_reducible refine Zap ?_); refine Zai rfl ?_ ?_ <;> intro hb <;> (try simp only [zH] at hb)) | ((with_reducible refine Zax ?_); (first | refine Zad htb hmz noSp fF rfl rfl ?_ | refine Zae hmo htb hmz noSp fF rfl rfl (by kernel_rfl) ?_); intro _ _ _ _ h; simp only [zE, evp, evx, ev1, evLoad, evStore, evBin, Zaa, forall_const, z38, tb, reduceAdd, reduceSub, reduceMul, reduceEqDiff, reduceLeDiff, reduceLT, Nat.reduceBEq, Nat.reduceBNe, ↓reduceIte, reduceIte] at h; obtain ⟨rfl, rfl, rfl, rfl⟩ := h; refine ⟨?_, ?_⟩) | ((with_reducible refine Ob.mk ?_); first | exact trivial | (intros; omega) | ((repeat' first | apply And.intro | (intro a; have b := a; try simp only [zH] at b)) <;> first | assumption | omega | (simp only [zH]; omega)))
        refine Zaw rfl rfl (Zen rfl ?_ rfl)
        have hff : folR ⟨o, p, x⟩ w c pl = ⟨[], [], []⟩ := by unfold folR; rw [if_neg (by rw [hcf]; decide)]
        rw [hff, hcf]
        exact Zh5 (Zb9 (Zi8 (Zb9 Zd6 (Zb9 Zd6 (Zb9 imp_nilII (Zbr rfl))))) (Zbr rfl))
      · have hrl : r < (nx v).length := by omega
        refine back (r + 1) [(64, 80)] ?_ ⟨by omega, fun i hi => ?_⟩ (by omega)
        · (refine ⟨rfl, ?_, ?_⟩ <;> simp only [zE, evp, evx, ev1, evLoad, evStore, evBin, Zaa, forall_const, z38, tb, reduceAdd, reduceSub, reduceMul, reduceEqDiff, reduceLeDiff, reduceLT, Nat.reduceBEq, Nat.reduceBNe, ↓reduceIte, reduceIte, zI])
          rw [htn hrl, (hnm1 hrl).1]
        · rcases Nat.lt_succ_iff_lt_or_eq.1 hi with h | rfl
          · exact hwr i h
          · refine Classical.byContradiction fun h => ?_
            have := (hnm1 hrl).2.1.2 h
            rw [← (hnm1 hrl).1] at this
            omega
      · have hre : r = (nx v).length := by omega
        subst hre
        have hwa : ∀ t, t ∈ nx v → w.getD t.toNat 0 = pl := fun t ht => by
          obtain ⟨i, hi, e⟩ := Zcq ht
          rw [← e]; exact hwr i hi
        rw [List.take_length]
        refine Za9 64 (.roI ((nx v).map fun t => nmF k t.toNat)) (by simp only [Zar, Zas, fzE, fzA, fzR, fzB, set1, nbeq, reduceEqDiff, decide_true, decide_false, ↓reduceIte, reduceIte, cond_true, cond_false, List.take_length, Option.some.injEq]; rfl) (by first | exact rfl | (refine ⟨?_, rfl⟩; first | rfl | (intros; rfl))) (by simp only [Zar, Zas, fzE, fzA, fzR, fzB, set1, nbeq, reduceEqDiff, decide_true, decide_false, ↓reduceIte, reduceIte, cond_true, cond_false, List.take_length, Option.some.injEq]; rfl) (by simp only [Zar, Zas, fzE, fzA, fzR, fzB, set1, nbeq, reduceEqDiff, decide_true, decide_false, ↓reduceIte, reduceIte, cond_true, cond_false, List.take_length, Option.some.injEq]; rfl) ?_
        clear hwr hnw hnm1 htn hnm hnf hsel
        repeat' first
          | with_reducible first | apply Zan | apply Zaj | apply Zab | apply Zac | apply Zag | apply Zal | apply Zaf | apply Zah | apply Zam | apply Zao | apply Zak
          | ((with_reducible refine Zap ?_); refine Zai rfl ?_ ?_ <;> intro hb <;> (try simp only [zH] at hb)) | ((with_reducible refine Zax ?_); (first | refine Zad htb hmz noSp fF rfl rfl ?_ | refine Zae hmo htb hmz noSp fF rfl rfl (by kernel_rfl) ?_); intro _ _ _ _ h; simp only [zE, evp, evx, ev1, evLoad, evStore, evBin, Zaa, forall_const, z38, tb, reduceAdd, reduceSub, reduceMul, reduceEqDiff, reduceLeDiff, reduceLT, Nat.reduceBEq, Nat.reduceBNe, ↓reduceIte, reduceIte] at h; obtain ⟨rfl, rfl, rfl, rfl⟩ := h; refine ⟨?_, ?_⟩) | ((with_reducible refine Ob.mk ?_); first | exact trivial | (intros; omega) | ((repeat' first | apply And.intro | (intro a; have b := a; try simp only [zH] at b)) <;> first | assumption | omega | (simp only [zH]; omega)))
        refine back (j + 1) [(20, 74), (21, 85), (22, 92)] ?_ ⟨by omega, fun i hi => ?_⟩ (by omega)
        · (refine ⟨rfl, ?_, ?_⟩ <;> simp only [zE, evp, evx, ev1, evLoad, evStore, evBin, Zaa, forall_const, z38, tb, reduceAdd, reduceSub, reduceMul, reduceEqDiff, reduceLeDiff, reduceLT, Nat.reduceBEq, Nat.reduceBNe, ↓reduceIte, reduceIte, zI])
          rw [Zf7 (d := 0) hjl, hvv]
          simp only [List.map_append, List.map_cons, List.map_nil]
          exact ⟨trivial, trivial, trivial⟩
        · rcases Nat.lt_succ_iff_lt_or_eq.1 hi with h | rfl
          · exact hok i h
          · rw [hvv]; exact hwa
  have hje : j = kl.length := by omega
  subst hje
  rw [List.take_length]
  refine Za9 20 (.roI (kl.map fun v => o.getD v 0)) (by simp only [Zar, Zas, fzE, fzA, fzR, fzB, set1, nbeq, reduceEqDiff, decide_true, decide_false, ↓reduceIte, reduceIte, cond_true, cond_false, List.take_length, Option.some.injEq]; rfl) (by first | exact rfl | (refine ⟨?_, rfl⟩; first | rfl | (intros; rfl))) (by simp only [Zar, Zas, fzE, fzA, fzR, fzB, set1, nbeq, reduceEqDiff, decide_true, decide_false, ↓reduceIte, reduceIte, cond_true, cond_false, List.take_length, Option.some.injEq]; rfl) (by simp only [Zar, Zas, fzE, fzA, fzR, fzB, set1, nbeq, reduceEqDiff, decide_true, decide_false, ↓reduceIte, reduceIte, cond_true, cond_false, List.take_length, Option.some.injEq]; rfl) ?_
  refine Za9 21 (.roI (kl.map fun v => p.getD v 0)) (by simp only [Zar, Zas, fzE, fzA, fzR, fzB, set1, nbeq, reduceEqDiff, decide_true, decide_false, ↓reduceIte, reduceIte, cond_true, cond_false, List.take_length, Option.some.injEq]; rfl) (by first | exact rfl | (refine ⟨?_, rfl⟩; first | rfl | (intros; rfl))) (by simp only [Zar, Zas, fzE, fzA, fzR, fzB, set1, nbeq, reduceEqDiff, decide_true, decide_false, ↓reduceIte, reduceIte, cond_true, cond_false, List.take_length, Option.some.injEq]; rfl) (by simp only [Zar, Zas, fzE, fzA, fzR, fzB, set1, nbeq, reduceEqDiff, decide_true, decide_false, ↓reduceIte, reduceIte, cond_true, cond_false, List.take_length, Option.some.injEq]; rfl) ?_
  refine Za9 22 (.roII (kl.map fun v => (nx v).map fun t => nmF k t.toNat)) (by simp only [Zar, Zas, fzE, fzA, fzR, fzB, set1, nbeq, reduceEqDiff, decide_true, decide_false, ↓reduceIte, reduceIte, cond_true, cond_false, List.take_length, Option.some.injEq]; rfl) (by first | exact rfl | (refine ⟨?_, rfl⟩; first | rfl | (intros; rfl))) (by simp only [Zar, Zas, fzE, fzA, fzR, fzB, set1, nbeq, reduceEqDiff, decide_true, decide_false, ↓reduceIte, reduceIte, cond_true, cond_false, List.take_length, Option.some.injEq]; rfl) (by simp only [Zar, Zas, fzE, fzA, fzR, fzB, set1, nbeq, reduceEqDiff, decide_true, decide_false, ↓reduceIte, reduceIte, cond_true, cond_false, List.take_length, Option.some.injEq]; rfl) ?_
  repeat' first
    | with_reducible first | apply Zan | apply Zaj | apply Zab | apply Zac | apply Zag | apply Zal | apply Zaf | apply Zah | apply Zam | apply Zao | apply Zak
    | ((with_reducible refine Zap ?_); refine Zai rfl ?_ ?_ <;> intro hb <;> (try simp only [zH] at hb)) | ((with_reducible refine Zax ?_); (first | refine Zad htb hmz noSp fF rfl rfl ?_ | refine Zae hmo htb hmz noSp fF rfl rfl (by kernel_rfl) ?_); intro _ _ _ _ h; simp only [zE, evp, evx, ev1, evLoad, evStore, evBin, Zaa, forall_const, z38, tb, reduceAdd, reduceSub, reduceMul, reduceEqDiff, reduceLeDiff, reduceLT, Nat.reduceBEq, Nat.reduceBNe, ↓reduceIte, reduceIte] at h; obtain ⟨rfl, rfl, rfl, rfl⟩ := h; refine ⟨?_, ?_⟩) | ((with_reducible refine Ob.mk ?_); first | exact trivial | (intros; omega) | ((repeat' first | apply And.intro | (intro a; have b := a; try simp only [zH] at b)) <;> first | assumption | omega | (simp only [zH]; omega)))
  refine Zaw rfl rfl (Zat rfl ?_ rfl)
  have hct : cloB ⟨o, p, x⟩ w c pl = true := decide_eq_true fun v hv hw t ht => by
    rw [hNX] at ht
    obtain ⟨i, hi, e⟩ := List.getElem_of_mem (hsel v hv hw)
    refine hok i hi t ?_
    rw [List.getD_eq_getElem?_getD, List.getElem?_eq_getElem hi, Option.getD_some, e]
    exact ht
  have hff : folR ⟨o, p, x⟩ w c pl = folG ⟨o, p, x⟩ w c pl := by unfold folR; rw [if_pos hct]
  rw [hff, hct, hfol]
  rfl
open Go
section
variable {P : Program} {ro : Option Nat} {N κ : Nat} {tb : Nat → Option TI}
theorem call_frame {s : CS} {kk : List Nat} {rin : List (Nat × Option Blk)} {Q0 : GR → Prop} {Q : Exit → St → Prop} {dst : Option Nat} (hd' : ∀ d, dst = some d → d < N) (hkk : kkOK s.m kk = true) (hκ : Nat.ble κ s.m = true)
    (hrin : ∀ j B, lkr rin j = some B → j < kk.length ∧ menB (ltK kk.length) B ∧ lkr s.rs (rhoC kk s.m j) = some (renB (rhoC kk s.m) B))
    (next : ∀ g, Q0 g → kk.length ≤ g.m → Q .normal (CS.st ⟨s.m + (g.m - kk.length), putE dst (ren (rhoC kk s.m) g.val) s.env, outR kk s.m g.rs s.rs, s.ms⟩))
    {K Z : Nat → Prop} {w : World} {ν : Nat → Value} {a : Act} (hg : Good K Z N w ν s.st a) :
    ∃ Kc : Nat → Prop, GoodRs Kc Z w (fun j => ν (rhoC kk s.m j)) (ltK kk.length) (lkr rin) ∧ (∀ b, Z b → Kc b) ∧ (∀ b, Kc b → b < w.heap.size) ∧
      ∀ (y : Value) (w' : World) (Z' : Nat → Prop) (ν' : Nat → Value) (g : GR), Step Kc Z w Z' w' → (∀ k, (ν' k).oneCell' = true) → (∀ k, k < kk.length → ν' k = ν (rhoC kk s.m k)) → R Z' w' g.val ν' true [y] → men (ltK g.m) g.val = true →
        GoodRs (un Kc Z') Z' w' ν' (ltK g.m) (lkr g.rs) → (∀ b, Z' b → b < w'.heap.size) → Q0 g → kk.length ≤ g.m → Post N κ K Z w ν Q .normal (a.put dst y) w' := by
  obtain ⟨Ft, hF⟩ := id hg.rs
  have hF' : ∀ k B, lkr s.rs k = some B → k < s.m := fun k B hk => by
    have := (hF k B hk).1
    rwa [show (s.st).mu k = Nat.blt k s.m from rfl, Nat.blt_eq] at this
  let ρ := rhoC kk s.m
  have hρ : ∀ i j, ρ i = ρ j → i = j := fun i j h => rhoC_inj hkk h
  let Kc : Nat → Prop := fun b => K b ∨ ∃ k B, k ∉ kk ∧ lkr s.rs k = some B ∧ Ft k b
  have hKc : ∀ b, Kc b → b < w.heap.size := fun b hb => hb.elim (hg.kl b) fun ⟨k, B, _, hk, hb⟩ => ((hF k B hk).2.2.2.1 b hb).2
  refine ⟨Kc,
      ⟨fun j => Ft (ρ j), fun j B hj => by
        obtain ⟨r1, r2, r3⟩ := hrin j B hj
        obtain ⟨g1, g2, g3, g4, g5⟩ := hF _ _ r3
        refine ⟨by show Nat.blt j _ = true; rw [Nat.blt_eq]; exact r1, r2, sat_ren.1 g3, fun b hb => ⟨?_, (g4 b hb).2⟩, fun j' B' hne hj' => ?_⟩
        · rintro (h | ⟨k, B', hk, hkr, h⟩)
          · exact (g4 b hb).1 h
          · exact g5 k B' (fun e => hk (e ▸ (Zd3 r1 hkk).1)) hkr b hb h
        · obtain ⟨q1, q2, q3⟩ := hrin j' B' hj'
          exact g5 _ _ (fun e => hne (hρ _ _ e)) q3⟩,
    fun b hb => .inl (hg.zk b hb), hKc, ?_⟩
  intro y w' Z' ν' g hstep h1' hν hr' hm' ⟨Fn, hFn⟩ hzs hq hle
  let νn : Nat → Value := fun k => if k < s.m then ν k else ν' (k - s.m + kk.length)
  have hνρ : ∀ j, j < g.m → νn (ρ j) = ν' j := fun j hj => by
    show (if ρ j < s.m then _ else _) = _
    rcases Nat.lt_or_ge j kk.length with h | h
    · rw [if_pos (Zd3 h hkk).2, hν j h]
    · rw [show ρ j = s.m + (j - kk.length) from Ze3 h, if_neg (by omega)]
      congr 1; omega
  have hold : ∀ b, Kc b → w'.heap[b]? = w.heap[b]? := hstep.ext.block
  have hst : Step K Z w Z' w' := ⟨⟨hstep.ext.os, hstep.ext.tape, hstep.ext.output, hstep.ext.size, fun b hb => hold b (.inl hb)⟩, hstep.le, fun b hb => (hstep.new b hb).imp id fun h hk => h (.inl hk)⟩
  have hνold : ∀ k, ltK s.m k = true → νn k = ν k := fun k hk => by
    rw [ltK, Nat.blt_eq] at hk
    exact if_pos hk
  have hR' : R Z' w' (ren ρ g.val) νn true [y] := R_ren.2 (R_nu (fun k hk => hνρ k (by rw [ltK, Nat.blt_eq] at hk; exact hk)) hm' hr')
  have hgood : Good (un K Z') Z' N w' νn ⟨ltK (s.m + (g.m - kk.length)), lke s.env, lkr (outR kk s.m g.rs s.rs), s.ms⟩ a := by
    have hwide : ∀ k, ltK s.m k = true → ltK (s.m + (g.m - kk.length)) k = true := fun k hk => by
      simp only [ltK, Nat.blt_eq] at hk ⊢; omega
    refine ⟨hg.size, fun k => ?_, fun t => ⟨Zdm hwide (hg.env t).1, R_nu hνold (hg.env t).1 (Zbk hst.le (fun b hb => hst.ext.block b (hg.zk b hb)) (hg.env t).2)⟩, ?_, fun b hb => .inr hb, fun b hb => ?_, ?_, fun k hk => hwide k (hg.ml k hk)⟩
    · show (if k < s.m then _ else _ : Value).oneCell' = true
      split
      · exact hg.one k
      · exact h1' _
    · refine ⟨fun k b => (∃ j B, ρ j = k ∧ lkr g.rs j = some B ∧ Fn j b) ∨ (k ∉ kk ∧ (∃ B, lkr s.rs k = some B) ∧ Ft k b), fun k B hk => ?_⟩
      have hcase : ∀ {k B}, lkr (outR kk s.m g.rs s.rs) k = some B → (∃ j B0, ρ j = k ∧ lkr g.rs j = some B0 ∧ B = renB ρ B0) ∨ ((∀ j B0, ρ j = k → lkr g.rs j ≠ some B0) ∧ k ∉ kk ∧ lkr s.rs k = some B) := by
        intro k B hk
        unfold lkr outR at hk
        rw [lko_app] at hk
        rcases Zh3 hρ (g := g.rs) (k := k) with ⟨j, e, x, h1, h2⟩ | ⟨h1, h2⟩
        · rw [h2] at hk
          dsimp only at hk
          cases x with
          | none => cases hk
          | some B0 =>
            simp only [Option.map_some, Option.some.injEq] at hk
            exact .inl ⟨j, B0, e, by unfold lkr; rw [h1], hk.symm⟩
        · rw [h1] at hk
          dsimp only at hk
          obtain ⟨d1, d2⟩ := Zfi (kk := kk) (l := s.rs) (k := k) (B := B) hk
          refine .inr ⟨fun j B0 e h => ?_, d1, d2⟩
          unfold lkr at h
          rw [h2 j e] at h; cases h
      have hnewF : ∀ {j B0}, lkr g.rs j = some B0 → ∀ b, ((∃ j' B, ρ j' = ρ j ∧ lkr g.rs j' = some B ∧ Fn j' b) ∨ (ρ j ∉ kk ∧ (∃ B, lkr s.rs (ρ j) = some B) ∧ Ft (ρ j) b)) ↔ Fn j b := by
        intro j B0 hj b
        constructor
        · rintro (⟨j', B, e, _, h⟩ | ⟨h1, ⟨B, h2⟩, _⟩)
          · rw [hρ _ _ e] at h; exact h
          · exfalso
            rcases Nat.lt_or_ge j kk.length with h | h
            · exact h1 (Zd3 h hkk).1
            · have := hF' _ _ h2
              rw [show ρ j = s.m + (j - kk.length) from Ze3 h] at this
              omega
        · exact fun h => .inl ⟨j, B0, rfl, hj, h⟩
      have holdF : ∀ {k B}, (∀ j B0, ρ j = k → lkr g.rs j ≠ some B0) → k ∉ kk → lkr s.rs k = some B → ∀ b, ((∃ j' B, ρ j' = k ∧ lkr g.rs j' = some B ∧ Fn j' b) ∨ (k ∉ kk ∧ (∃ B, lkr s.rs k = some B) ∧ Ft k b)) ↔ Ft k b := by
        intro k B h1 h2 h3 b
        constructor
        · rintro (⟨j', B, e, h, _⟩ | ⟨_, _, h⟩)
          · exact absurd h (h1 j' B e)
          · exact h
        · exact fun h => .inr ⟨h2, ⟨B, h3⟩, h⟩
      rcases hcase hk with ⟨j, B0, rfl, hj, rfl⟩ | ⟨c1, c2, c3⟩
      · obtain ⟨f1, f2, f3, f4, f5⟩ := hFn j B0 hj
        have hjm : j < g.m := by rw [ltK, Nat.blt_eq] at f1; exact f1
        have hFe := funext fun b => propext (hnewF hj b)
        refine ⟨Zer hkk hle j f1, menB_renK (Zer hkk hle) f2, ?_, fun b hb => ⟨?_, (f4 b ((hnewF hj b).1 hb)).2⟩, fun k' B' hne hk' b hb => ?_⟩
        · dsimp only
          rw [hFe, hνρ j hjm]
          exact sat_ren.2 (Zey (fun k hk => hνρ k (by rw [ltK, Nat.blt_eq] at hk; exact hk)) f2 f3)
        · have := (f4 b ((hnewF hj b).1 hb)).1
          rintro (h | h)
          · exact this (.inl (.inl h))
          · exact this (.inr h)
        · have hb := (hnewF hj b).1 hb
          rcases hcase hk' with ⟨j', B0', rfl, hj', rfl⟩ | ⟨c1, c2, c3⟩
          · exact fun h => f5 j' B0' (fun e => hne (by rw [e])) hj' b hb ((hnewF hj' b).1 h)
          · exact fun h => (f4 b hb).1 (.inl (.inr ⟨k', B', c2, c3, (holdF c1 c2 c3 b).1 h⟩))
      · obtain ⟨g1, g2, g3, g4, g5⟩ := hF k B c3
        have hFe := funext fun b => propext (holdF c1 c2 c3 b)
        have hnz : ∀ b, Ft k b → ¬ un K Z' b := fun b hb => by
          rintro (h | h)
          · exact (g4 b hb).1 h
          · rcases hstep.new b h with h2 | h2
            · exact (g4 b hb).1 (hg.zk b h2)
            · exact h2 (.inr ⟨k, B, c2, c3, hb⟩)
        refine ⟨hwide k g1, Zdv hwide g2, ?_, fun b hb => ⟨hnz b ((holdF c1 c2 c3 b).1 hb), Nat.lt_of_lt_of_le (g4 b ((holdF c1 c2 c3 b).1 hb)).2 hstep.ext.size⟩, fun k' B' hne hk' b hb => ?_⟩
        · dsimp only
          rw [hFe, hνold k g1]
          exact Zey hνold g2 (Zbp hst.le (fun b hb => hst.ext.block b (hg.zk b hb)) (fun b hb => hold b (.inr ⟨k, B, c2, c3, hb⟩)) g3)
        · have hb := (holdF c1 c2 c3 b).1 hb
          rcases hcase hk' with ⟨j', B0', rfl, hj', rfl⟩ | ⟨d1, d2, d3⟩
          · exact fun h => ((hFn j' B0' hj').2.2.2.1 b ((hnewF hj' b).1 h)).1 (.inl (.inr ⟨k, B, c2, c3, hb⟩))
          · exact fun h => g5 k' B' hne d3 b hb ((holdF d1 d2 d3 b).1 h)
    · rcases hb with h | h
      · exact Nat.lt_of_lt_of_le (hg.kl b h) hst.ext.size
      · exact hzs b h
    · rw [hg.ds]
      exact fmC fun k hk => by rw [hνold k (hg.ml k hk)]
  refine ⟨Z', νn, _, hst, fun k hk => hνold k (by rw [ltK, Nat.blt_eq]; have := Nat.le_of_ble_eq_true hκ; omega), ?_, next g hq hle⟩
  have := Good.setd hgood hd' hR' (Zge (Zer hkk hle) hm')
  rw [show CS.st ⟨s.m + (g.m - kk.length), putE dst (ren (rhoC kk s.m) g.val) s.env, outR kk s.m g.rs s.rs, s.ms⟩ = ⟨ltK (s.m + (g.m - kk.length)), lke (putE dst (ren (rhoC kk s.m) g.val) s.env), lkr (outR kk s.m g.rs s.rs), s.ms⟩ from rfl, Zgb]
  exact this
def Zk5 (P : Program) (args : List AV) (rin : List (Nat × Option Blk)) (κ : Nat) (Q : GR → Prop) : Prop :=
  ∀ (n : Nat) (K Z : Nat → Prop) (ν : Nat → Value) (w : World) (vals : Array Value) (l : Nat), (∀ k, (ν k).oneCell' = true) → R Z w (mkL args) ν true vals.toList → GoodRs K Z w ν (ltK κ) (lkr rin) → (∀ b, Z b → K b) → (∀ b, K b → b < w.heap.size) → ν 0 = .map (some l) →
    ∃ (f : FuncId) (tmps : Array Value) (assign body : Code), (Instr.yield l vals).run P w = .ok (.round l f tmps assign body) w ∧ RoundIn (FF none) n P l f tmps assign body w fun e w' => ∃ (y : Value) (Z' : Nat → Prop) (ν' : Nat → Value) (g : GR),
      e = .returned y ∧ Step K Z w Z' w' ∧ (∀ k, (ν' k).oneCell' = true) ∧ (∀ k, k < κ → ν' k = ν k) ∧ R Z' w' g.val ν' true [y] ∧ men (ltK g.m) g.val = true ∧ GoodRs (un K Z') Z' w' ν' (ltK g.m) (lkr g.rs) ∧ (∀ b, Z' b → b < w'.heap.size) ∧ Q g ∧ κ ≤ g.m
theorem awpL_yield {o : Oper} {x : Operand} {xs : List Operand} {ts : Array TypeId} {ky m : Nat} {env : List (Nat × AV)} {l : List (Nat × Option Blk)} {ms : List Nat} (kk : List Nat) {args : List AV} {rin : List (Nat × Option Blk)} {Q0 : GR → Prop} {Q : Exit → St → Prop}
    (hS : Zk5 P args rin kk.length Q0)
    (ho : o.op = .call ⟨.value x, xs.toArray, ts⟩) (hgd : o.guard.isNone = true) (hd : Zea N [o] = true) (hf : opv (lke env) x = .yld ky) (hky : rhoC kk m 0 = ky)
    (hargs : ofL (opv (lke env)) xs = ren (rhoC kk m) (mkL args)) (hkk : kkOK m kk = true) (hκ : Nat.ble κ m = true)
    (hrin : rinR kk m l rin)
    (next : ∀ gm gv gr, Q0 ⟨gm, gv, gr⟩ → ∀ m' e' l', (m + (gm - kk.length) = m' ∧ putE o.dst (ren (rhoC kk m) gv) env = e' ∧ outR kk m gr l = l') → Q .normal (CS.st ⟨m', e', l', ms⟩)) : awpL P ro N κ [o] (CS.st ⟨m, env, l, ms⟩) Q := by
  intro n K Z ν w a hg
  have hw : Region.wanted o (yielded #[] a.tmps) = true := Zcy hgd _
  simp only [wpListIn, hw, if_true]
  have hev : ∀ y : Operand, R Z w (opv (lke env) y) ν true [a.eval y] ∧ men (ltK m) (opv (lke env) y) = true := fun y => ⟨Zju hg y, Zhv hg y⟩
  have rf := (hev x).1
  rw [hf] at rf
  obtain ⟨lp, hlp, ecv⟩ := rf
  have ecv := one1 ecv
  have hargs2 : R Z w (ofL (opv (lke env)) xs) ν true (xs.map a.eval) ∧ men (ltK m) (ofL (opv (lke env)) xs) = true := Zim xs fun y _ => hev y
  have hall := hargs2.1
  rw [hargs] at hall
  have hall := R_ren.1 hall
  have hd' : ∀ d, o.dst = some d → d < N := fun d hd2 => by
    simp [Zea, hd2] at hd; exact hd
  obtain ⟨Kc, h1, h2, h3, h4⟩ := call_frame (s := ⟨m, env, l, ms⟩) (kk := kk) (Q := Q) hd' hkk hκ (fun j B hj => by
    obtain ⟨h1, h2, h3⟩ := Zga hrin (Zdh hj).2
    rw [Nat.blt_eq] at h1
    exact ⟨h1, h2, h3⟩) (fun g hg hle => next g.m g.val g.rs hg _ _ _ ⟨rfl, rfl, rfl⟩) hg
  obtain ⟨f, tmps, assign, body, hrun, hround⟩ := hS (n - 1) Kc Z (fun j => ν (rhoC kk m j)) w (xs.map a.eval).toArray lp (fun j => hg.one _) (by exact hall) h1 h2 h3 (by show ν (rhoC kk m 0) = _; rw [hky]; exact hlp)
  have hsem : (o.semAt (FF ro).round a.eval).run P w = .ok (.round lp f tmps assign body) w := by
    rw [Zc0 (by rw [ho]; intro c hc; cases hc)]
    simp [execOp, ho, resolve, ecv, Deferred.ofValue, invoke, hrun, Sem.run_bind, Result.andThen, Sem.run]
  refine ⟨fun f hf => trivial, ?_⟩
  rw [hsem]
  refine ⟨(fun h => by cases h), RoundIn.mono hround ?_⟩
  rintro e w' ⟨y, Z', ν', g, rfl, c1, c2, c3, c4, c5, c6, c7, c8, c9⟩
  exact h4 y w' Z' ν' g c1 c2 c3 c4 c5 c6 c7 c8 c9
end
open Go
abbrev SemA := List Value → (Nat → Prop) → World → (Nat → Prop) → Prop
section
variable {P : Program} {ro : Option Nat} {N κ : Nat} {tb : Nat → Option TI}
theorem Good.put {K Z : Nat → Prop} {w : World} {ν : Nat → Value} {σ : St} {a : Act} {r : Nat} {o : Obj} (hg : Good K Z N w ν σ a) (hK : K r) (hZ : ¬ Z r) : Good K Z N (w.putObj r o) ν σ a := by
  have hz : ∀ b, Z b → (w.putObj r o).heap[b]? = w.heap[b]? := fun b hb => World.putObj_heap_other (fun e => hZ (e ▸ hb))
  refine ⟨hg.size, hg.one, fun s => ⟨(hg.env s).1, Zbk (fun _ h => h) hz (hg.env s).2⟩, ?_, hg.zk, fun b hb => by rw [World.putObj_size]; exact hg.kl b hb, hg.ds, hg.ml⟩
  exact hg.rs.mono (fun _ h => h) hz (by rw [World.putObj_size]; exact Nat.le_refl _) (fun _ h => .inl h) (fun b hb _ => World.putObj_heap_other (fun e => hb (e ▸ hK)))
theorem Ze6 (w : World) (o : Obj) (k : Nat) (h : k < w.heap.size) : (w.alloc o).heap[k]? = w.heap[k]? := by
  show (w.heap.push o)[k]? = _
  rw [Array.getElem?_push, if_neg (by omega)]
theorem menE_lke {m : Nat} : ∀ {env : List (Nat × AV)}, menE m env = true → ∀ s, men (ltK m) (lke env s) = true
  | [], _, _ => rfl
  | (k, v) :: t, h, s => by
    simp only [menE, Bool.and_eq_true] at h
    rw [Zdn]
    split
    · exact h.1
    · exact menE_lke h.2 s
end
open Go
def Zft (w : World) (Z : Nat → Prop) (ν : Nat → Value) (m lp D : Nat) (rc : Loop) (S : List (Nat × Option Blk)) : SemA := fun vs Zs ws F =>
  vs = [.map (some lp)] ∧ (∀ y, Z y → Zs y ∧ ws.heap[y]? = w.heap[y]?) ∧ F lp ∧ F D ∧ ws.heap[lp]? = some (.loop rc) ∧ ws.heap[D]? = some (.deferred (some [])) ∧
    ∃ (ν' : Nat → Value) (G : Nat → Nat → Prop), (∀ k, (ν' k).oneCell' = true) ∧ (∀ k, k < m → ν' k = ν k) ∧ ∀ k b, lkr S k = some b → sat Zs ws ν' (ν' k) (G k) b ∧ (∀ x, G k x → F x ∧ x ≠ lp ∧ x ≠ D) ∧ ∀ k' b', k ≠ k' → lkr S k' = some b' → ∀ x, G k x → ¬ G k' x
section
variable {w : World} {Z : Nat → Prop} {ν : Nat → Value} {m lp D : Nat} {rc : Loop} {S : List (Nat × Option Blk)}
theorem ASemV_mono {vs : List Value} {Zs Z' : Nat → Prop} {ws w' : World} {F : Nat → Prop} (h : Zft w Z ν m lp D rc S vs Zs ws F) (hZ : ∀ y, Zs y → Z' y) (hw : ∀ y, Zs y ∨ F y → w'.heap[y]? = ws.heap[y]?) : Zft w Z ν m lp D rc S vs Z' w' F := by
  obtain ⟨h1, h2, h3, h4, h5, h6, ν', G, h7, h8, h9⟩ := h
  refine ⟨h1, fun y hy => ⟨hZ y (h2 y hy).1, (hw y (.inl (h2 y hy).1)).trans (h2 y hy).2⟩, h3, h4, (hw lp (.inr h3)).trans h5, (hw D (.inr h4)).trans h6, ν', G, h7, h8, fun k b hk => ?_⟩
  obtain ⟨g1, g2, g3⟩ := h9 k b hk
  exact ⟨Zbp hZ (fun y hy => hw y (.inl hy)) (fun y hy => hw y (.inr (g2 y hy).1)) g1, g2, g3⟩
theorem sat_ASemV {νc : Nat → Value} {a : Nat} {Zs : Nat → Prop} {ws : World} {F : Nat → Prop} {x : Value} (h : Zft w Z ν m lp D rc S [νc a] Zs ws F) : sat Zs ws νc x F (.sem [a] (Zft w Z ν m lp D rc S)) :=
  fun Z' w' h1 h2 => ASemV_mono h h1 h2
theorem ASemV_of {νc : Nat → Value} {a : Nat} {Zs : Nat → Prop} {ws : World} {F : Nat → Prop} {x : Value} (h : sat Zs ws νc x F (.sem [a] (Zft w Z ν m lp D rc S))) : Zft w Z ν m lp D rc S [νc a] Zs ws F :=
  h Zs ws (fun _ h => h) (fun _ _ => rfl)
end
section
variable {P : Program} {ro : Option Nat} {N κ : Nat} {tb : Nat → Option TI}
inductive Lv where
  | ret
  | exit (id : Nat)
def Lv.c : Lv → Code
  | .ret => .ret
  | .exit id => .exit id
def Lv.e : Lv → Exit
  | .ret => .ret
  | .exit id => .exit id
def roundV (κ : Nat) {τ : Type} (I X : τ → Prop) (nx : τ → τ → Prop) (lv : Lv) (S : τ → List (Nat × Option Blk)) (M : Nat) (t : τ) (e : Exit) (s : St) : Prop :=
  ∃ (cs : CS) (t' : τ) (ρ : List (Nat × Nat)), s = cs.st ∧ LeC κ cs ρ ⟨M, [], S t', []⟩ ∧ ((e = .normal ∧ I t' ∧ nx t t') ∨ (e = lv.e ∧ X t'))
def Ze4 (rc : Loop) (lv : Lv) : Bool → Loop
  | true => rc
  | false => { rc with state := .done, pending := some lv.c }
theorem cases1 {k : Nat} {b b1 : Blk} (hk : lkr [(1, some b1)] k = some b) : k = 1 ∧ b = b1 := by
  rw [Zar] at hk
  by_cases h1 : k = 1
  · rw [if_pos h1] at hk; exact ⟨h1, (Option.some.inj hk).symm⟩
  · rw [if_neg h1] at hk; cases hk
end
open Go
section
variable {P : Program} {ro : Option Nat} {N κ : Nat} {tb : Nat → Option TI}
def awpG (P : Program) (ro : Option Nat) (N κ : Nat) (ops : Array Oper) (l : List Oper) (σ : St) (Q : Exit → St → Prop) : Prop :=
  ∀ n K Z ν w a, Good K Z N w ν σ a → wpListIn (FF ro) n P ops (Post N κ K Z w ν Q) l a w
theorem Zfq {id : Nat} {l : List Oper} {σ : St} {Q : Exit → St → Prop} (h : awpG P ro N κ l.toArray l σ Q) : awp P ro N κ (.region id l.toArray false) σ Q :=
  fun n K Z ν w a hg => wpIn_region_lit (h n K Z ν w a hg)
theorem Zgk {ops : Array Oper} {σ : St} {Q : Exit → St → Prop} (h : Q .normal σ) : awpG P ro N κ ops [] σ Q := fun n K Z ν w a hg => Zdd hg h
def noGd (o : Oper) : Oper := { o with guard := none }
theorem awpG_one {ops : Array Oper} {o : Oper} {rest : List Oper} {σ : St} {Q : Exit → St → Prop} (hw : ∀ K Z ν w a, Good K Z N w ν σ a → Region.wanted o (yielded ops a.tmps) = true)
    (h : awpL P ro N κ [noGd o] σ (Ze9 (fun s => awpG P ro N κ ops rest s Q) Q)) : awpG P ro N κ ops (o :: rest) σ Q := by
  intro n K Z ν w a hg
  have h1 := h n K Z ν w a hg
  have hw1 : Region.wanted (noGd o) (yielded #[] a.tmps) = true := Zcy rfl _
  simp only [wpListIn, hw1, if_true] at h1
  simp only [wpListIn, hw K Z ν w a hg, if_true]
  have h2 : o.wpIn (FF ro) n P a w (fun a' w' => Post N κ K Z w ν (Ze9 (fun s => awpG P ro N κ ops rest s Q) Q) .normal a' w') (Post N κ K Z w ν (Ze9 (fun s => awpG P ro N κ ops rest s Q) Q)) := h1
  refine Zgw (fun a' w' hp => ?_) (fun e a' w' he hp => ?_) h2
  · obtain ⟨Z', ν', σ', g1, g2, g3, g4⟩ := hp
    exact Zck (fun e a2 w2 hp => hp.trans g1 g2) (g4 n _ _ ν' w' a' g3)
  · obtain ⟨Z', ν', σ', g1, g2, g3, g4⟩ := hp
    refine ⟨Z', ν', σ', g1, g2, g3, ?_⟩
    cases e <;> first | exact absurd rfl he | exact g4
theorem tmp_bool {K Z : Nat → Prop} {w : World} {ν : Nat → Value} {σ : St} {a : Act} {d : Nat} {b : Bool} (hg : Good K Z N w ν σ a) (h : σ.env d = .bool b) : a.tmps[d]? = some (.bool b) := by
  have := (hg.env d).2
  rw [h] at this
  have h2 : a.tmps.getD d undef = .bool b := one1 this
  rw [Array.getD_eq_getD_getElem?] at h2
  cases e : a.tmps[d]? with
  | none => rw [e] at h2; cases h2
  | some v => rw [e] at h2; simp only [Option.getD_some] at h2; rw [h2]
theorem wanted_of {K Z : Nat → Prop} {w : World} {ν : Nat → Value} {σ : St} {a : Act} {ops : Array Oper} {o oi : Oper} {i d : Nat} {b v : Bool} (hg : Good K Z N w ν σ a) (ho : o.guard = some (i, b)) (hi : ops[i]? = some oi) (hd : oi.dst = some d) (h : σ.env d = .bool v) : Region.wanted o (yielded ops a.tmps) = (v == b) := by
  have e : yielded ops a.tmps i = some v := by
    unfold yielded
    rw [hi]
    simp only [Option.bind_some, hd, tmp_bool hg h]
  unfold Region.wanted
  rw [ho]
  simp only [e]
  cases v <;> cases b <;> rfl
theorem Zb5 {ops : Array Oper} {o : Oper} {rest : List Oper} {σ : St} {Q : Exit → St → Prop} (ho : o.guard = none) (h : awpL P ro N κ [noGd o] σ (Ze9 (fun s => awpG P ro N κ ops rest s Q) Q)) : awpG P ro N κ ops (o :: rest) σ Q :=
  awpG_one (fun K Z ν w a hg => Zcy (by rw [ho]; rfl) _) h
theorem Zcj {ops : Array Oper} {o oi : Oper} {rest : List Oper} {m : Nat} {env : List (Nat × AV)} {rs : List (Nat × Option Blk)} {ms : List Nat} {Q : Exit → St → Prop} {i d : Nat} {b : Bool} (ho : o.guard = some (i, b)) (hi : ops[i]? = some oi) (hd : oi.dst = some d) (hv : lke env d = .bool b)
    (h : awpL P ro N κ [noGd o] (CS.st ⟨m, env, rs, ms⟩) (Ze9 (fun s => awpG P ro N κ ops rest s Q) Q)) : awpG P ro N κ ops (o :: rest) (CS.st ⟨m, env, rs, ms⟩) Q :=
  awpG_one (fun K Z ν w a hg => by rw [wanted_of hg ho hi hd hv]; cases b <;> rfl) h
theorem Zdb {ops : Array Oper} {o oi : Oper} {rest : List Oper} {m : Nat} {env : List (Nat × AV)} {rs : List (Nat × Option Blk)} {ms : List Nat} {Q : Exit → St → Prop} {i d : Nat} {b : Bool} (ho : o.guard = some (i, b)) (hi : ops[i]? = some oi) (hd : oi.dst = some d) (hv : lke env d = .bool (!b)) (hN : Zea N [o] = true)
    (h : awpG P ro N κ ops rest (CS.st ⟨m, putE o.dst (.whn false (.bool false)) env, rs, ms⟩) Q) : awpG P ro N κ ops (o :: rest) (CS.st ⟨m, env, rs, ms⟩) Q := by
  intro n K Z ν w a hg
  have hw : Region.wanted o (yielded ops a.tmps) = false := by rw [wanted_of hg ho hi hd hv]; cases b <;> rfl
  simp only [wpListIn, hw]
  refine ⟨fun f hf => trivial, ?_⟩
  have hd' : ∀ d, o.dst = some d → d < N := fun d hd2 => by
    simp [Zea, hd2] at hN; exact hN
  have hg2 := Good.setd (v := .whn false (.bool false)) (y := undef) hg hd' ⟨(fun h => by cases h), fun _ => rfl⟩ rfl
  refine h n K Z ν w _ ?_
  rw [show CS.st ⟨m, putE o.dst (.whn false (.bool false)) env, rs, ms⟩ = ⟨ltK m, lke (putE o.dst (.whn false (.bool false)) env), lkr rs, ms⟩ from rfl, Zgb]
  exact hg2
def sV (M : Nat) : List (Nat × Option Blk) → Prop
  | [] => True
  | (k, some b) :: l => (Nat.blt k M = true ∧ menB (ltK M) b) ∧ sV M l
  | (k, none) :: l => sV M l
theorem Zj2 {M : Nat} : ∀ {l : List (Nat × Option Blk)}, sV M l → ∀ k b, lkr l k = some b → k < M ∧ menB (ltK M) b
  | [], _, k, b, hk => by cases hk
  | (j, some c) :: l, h, k, b, hk => by
    rw [Zar] at hk
    by_cases e : k = j
    · rw [if_pos e] at hk
      rw [e, ← Option.some.inj hk]
      exact ⟨by have := h.1.1; rwa [Nat.blt_eq] at this, h.1.2⟩
    · rw [if_neg e] at hk; exact Zj2 h.2 k b hk
  | (j, none) :: l, h, k, b, hk => by
    rw [Zar] at hk
    by_cases e : k = j
    · rw [if_pos e] at hk; cases hk
    · rw [if_neg e] at hk; exact Zj2 (l := l) h k b hk
end
end Go.Proofs.Ytbcghiagomkadaa.Cal
