/- Own texts, merged. -/
import Derived.Test.YtbcghiagomkadaaS14
set_option linter.unusedVariables false
set_option linter.unusedSimpArgs false
open Nat (reduceAdd reduceSub reduceMul reduceEqDiff reduceLeDiff reduceLT)
namespace Go.Proofs.Ytbcghiagomkadaa.Cal
section
open Go Pl
variable {h : Im} {B : Int} {K : Nat} {ch : List Int}
theorem Zk9 {pl D : Int} (hD : 0 ≤ D) (hB : D + 1 ≤ B) {l : Nat → Vl} : ∀ {row : List Int} {s : Vl × Int × Bool}, VOK K D s.1 → (∀ w, w ∈ row → VOK K D (l w.toNat)) →
    (enV pl B K s.1).le (enV pl B K (btIn pl l row s).1) ∧ (∀ w, w ∈ row → (enV pl B K (l w.toNat)).le (enV pl B K (btIn pl l row s).1)) ∧ (btIn pl l row s = s ∨ ∃ w, w ∈ row ∧ btIn pl l row s = (l w.toNat, w, true) ∧ ¬ (enV pl B K (l w.toNat)).le (enV pl B K s.1))
  | [], s, _, _ => ⟨Zv.le_refl _, (fun w h => by cases h), .inl rfl⟩
  | a :: row, s, ho, hl => by
    have ha := hl a List.mem_cons_self
    obtain ⟨_, c2⟩ := Zii (pl := pl) hD hB ha ho
    have e : btIn pl l (a :: row) s = btIn pl l row (if 0 < cmpV pl (l a.toNat) s.1 then (l a.toNat, a, true) else s) := List.foldl_cons ..
    rw [e]
    by_cases h : 0 < cmpV pl (l a.toNat) s.1
    · rw [if_pos h]
      have hgt := c2.1 h
      obtain ⟨i1, i2, i3⟩ := Zk9 hD hB (l := l) (row := row) (s := (l a.toNat, a, true)) ha fun w hw => hl w (List.mem_cons_of_mem _ hw)
      refine ⟨Zv.le_trans (Zv.le_tot hgt) i1, fun w hw => ?_, ?_⟩
      · rcases List.mem_cons.1 hw with rfl | hw
        · exact i1
        · exact i2 w hw
      · rcases i3 with e | ⟨w, hw, e, hn⟩
        · exact .inr ⟨a, List.mem_cons_self, e, hgt⟩
        · exact .inr ⟨w, List.mem_cons_of_mem _ hw, e, fun h2 => hn (Zv.le_trans h2 (Zv.le_tot hgt))⟩
    · rw [if_neg h]
      have hle : (enV pl B K (l a.toNat)).le (enV pl B K s.1) := Classical.byContradiction fun h2 => h (c2.2 h2)
      obtain ⟨i1, i2, i3⟩ := Zk9 hD hB (l := l) (row := row) (s := s) ho fun w hw => hl w (List.mem_cons_of_mem _ hw)
      refine ⟨i1, fun w hw => ?_, ?_⟩
      · rcases List.mem_cons.1 hw with rfl | hw
        · exact Zv.le_trans hle i1
        · exact i2 w hw
      · rcases i3 with e | ⟨w, hw, e, hn⟩
        · exact .inl e
        · exact .inr ⟨w, List.mem_cons_of_mem _ hw, e, hn⟩
def Zkr (h : Im) (B : Int) (K : Nat) (l : Nat → Vl) (ch c' : List Int) (v : Nat) : Prop := c'.getD v 0 = ch.getD v 0 ∧ ∀ w, w ∈ h.x.getD v [] → (enV h.pl B K (l w.toNat)).le (enV h.pl B K (nowV h ch l v))
def ChgB (h : Im) (B : Int) (K : Nat) (l : Nat → Vl) (ch c' : List Int) (v : Nat) : Prop := ∃ w, w ∈ h.x.getD v [] ∧ c'.getD v 0 = w ∧ ¬ (enV h.pl B K (l w.toNat)).le (enV h.pl B K (nowV h ch l v))
structure BP (h : Im) (B : Int) (K : Nat) (l : Nat → Vl) (ch : List Int) (i : Nat) (s : List Int × Bool) : Prop where
  len : s.1.length = ch.length
  ge : ∀ v, i ≤ v → s.1.getD v 0 = ch.getD v 0
  ot : ∀ v, v < i → hOw h v ≠ h.pl → s.1.getD v 0 = ch.getD v 0
  ow : ∀ v, v < i → hOw h v = h.pl → Zkr h B K l ch s.1 v ∨ ChgB h B K l ch s.1 v
  fl : s.2 = true ↔ ∃ v, v < i ∧ hOw h v = h.pl ∧ ChgB h B K l ch s.1 v
theorem now_vok {D : Int} (H : ImOK h K) (hD : 0 ≤ D) {l : Nat → Vl} (hl : ∀ u, u < h.o.length → VOK K D (l u)) (hlt : ∀ v, v < h.o.length → ch.getD v 0 < h.o.length) {v : Nat} (hv : v < h.o.length) : VOK K D (nowV h ch l v) := by
  unfold nowV
  have := hlt v hv
  split
  · exact hl _ (by omega)
  · exact Zcf H.st hD
theorem bp_all {D : Int} (H : ImOK h K) (hD : 0 ≤ D) (hB : D + 1 ≤ B) {l : Nat → Vl} (hl : ∀ u, u < h.o.length → VOK K D (l u)) (hcl : ch.length = h.o.length) (hlt : ∀ v, v < h.o.length → ch.getD v 0 < h.o.length) : ∀ i, i ≤ h.o.length → BP h B K l ch i (Ze0 h l ch i)
  | 0, _ => ⟨rfl, fun v _ => rfl, fun v hv => absurd hv (Nat.not_lt_zero _), fun v hv => absurd hv (Nat.not_lt_zero _), ⟨fun h => (by cases h), fun ⟨v, hv, _⟩ => absurd hv (Nat.not_lt_zero _)⟩⟩
  | i + 1, hi => by
    have ih := bp_all H hD hB hl hcl hlt i (by omega)
    rw [Zey]
    generalize Ze0 h l ch i = s at *
    unfold Ziu
    by_cases ho : h.o.getD i 0 ≠ h.pl
    · rw [if_pos ho]
      refine ⟨ih.len, fun v hv => ih.ge v (by omega), fun v hv hne => ?_, fun v hv he => ?_, ?_⟩
      · rcases Nat.lt_succ_iff_lt_or_eq.1 hv with h1 | rfl
        · exact ih.ot v h1 hne
        · exact ih.ge _ (Nat.le_refl _)
      · rcases Nat.lt_succ_iff_lt_or_eq.1 hv with h1 | rfl
        · exact ih.ow v h1 he
        · exact absurd he ho
      · rw [ih.fl]
        constructor
        · rintro ⟨v, h1, h2⟩; exact ⟨v, by omega, h2⟩
        · rintro ⟨v, h1, h2, h3⟩
          rcases Nat.lt_succ_iff_lt_or_eq.1 h1 with h4 | rfl
          · exact ⟨v, h4, h2, h3⟩
          · exact absurd h2 ho
    · rw [if_neg ho]
      have ho : h.o.getD i 0 = h.pl := Classical.byContradiction ho
      have hil : i < h.o.length := by omega
      have hsi := ih.ge i (Nat.le_refl _)
      have hnow : nowV h s.1 l i = nowV h ch l i := by unfold nowV; rw [hsi]
      rw [hnow, hsi]
      have hrow : ∀ w, w ∈ h.x.getD i [] → VOK K D (l w.toNat) := fun w hw => by
        obtain ⟨j, hj, rfl⟩ := Zc0 hw
        have := (H.row i hil).2 j hj
        exact hl _ (by omega)
      obtain ⟨_, b2, b3⟩ := Zk9 (pl := h.pl) hD hB (l := l) (row := h.x.getD i []) (s := (nowV h ch l i, ch.getD i 0, s.2)) (now_vok H hD hl hlt hil) hrow
      generalize btIn h.pl l (h.x.getD i []) (nowV h ch l i, ch.getD i 0, s.2) = r at *
      have hset : ∀ v, (s.1.set i r.2.1).getD v 0 = if v = i then r.2.1 else s.1.getD v 0 := fun v => getD_setI (by rw [ih.len]; omega)
      have hold : ∀ v, v < i → (s.1.set i r.2.1).getD v 0 = s.1.getD v 0 := fun v hv => by rw [hset, if_neg (by omega)]
      have hK : ∀ v, v < i → (Zkr h B K l ch (s.1.set i r.2.1) v ↔ Zkr h B K l ch s.1 v) := fun v hv => by unfold Zkr; rw [hold v hv]
      have hC : ∀ v, v < i → (ChgB h B K l ch (s.1.set i r.2.1) v ↔ ChgB h B K l ch s.1 v) := fun v hv => by unfold ChgB; rw [hold v hv]
      have hi2 : (s.1.set i r.2.1).getD i 0 = r.2.1 := by rw [hset, if_pos rfl]
      refine ⟨by rw [List.length_set]; exact ih.len, fun v hv => ?_, fun v hv hne => ?_, fun v hv he => ?_, ?_⟩
      · show (s.1.set i r.2.1).getD v 0 = _
        rw [hset, if_neg (by omega)]; exact ih.ge v (by omega)
      · rcases Nat.lt_succ_iff_lt_or_eq.1 hv with h1 | rfl
        · show (s.1.set i r.2.1).getD v 0 = _
          rw [hold v h1]; exact ih.ot v h1 hne
        · exact absurd ho hne
      · rcases Nat.lt_succ_iff_lt_or_eq.1 hv with h1 | rfl
        · exact (ih.ow v h1 he).imp (hK v h1).2 (hC v h1).2
        · rcases b3 with e | ⟨w, hw, e, hn⟩
          · left
            refine ⟨?_, fun w hw => ?_⟩
            · show (s.1.set v r.2.1).getD v 0 = _
              rw [hi2, e]
            · have := b2 w hw
              rw [e] at this; exact this
          · right
            refine ⟨w, hw, ?_, hn⟩
            show (s.1.set v r.2.1).getD v 0 = _
            rw [hi2, e]
      · show r.2.2 = true ↔ _
        rcases b3 with e | ⟨w, hw, e, hn⟩
        · have e2 : r.2.2 = s.2 := by rw [e]
          rw [e2, ih.fl]
          constructor
          · rintro ⟨v, h1, h2, h3⟩; exact ⟨v, by omega, h2, (hC v h1).2 h3⟩
          · rintro ⟨v, h1, h2, h3⟩
            rcases Nat.lt_succ_iff_lt_or_eq.1 h1 with h4 | rfl
            · exact ⟨v, h4, h2, (hC v h4).1 h3⟩
            · exfalso
              obtain ⟨w, hw, _, hn⟩ := h3
              have := b2 w hw
              rw [e] at this
              exact hn this
        · have e2 : r.2.2 = true := by rw [e]
          have e3 : r.2.1 = w := by rw [e]
          exact ⟨fun _ => ⟨i, Nat.lt_succ_self _, ho, w, hw, hi2.trans e3, hn⟩, fun _ => e2⟩
theorem Zj6 (hst : enV h.pl B K h.st = .fin 0) (l : Nat → Vl) {v : Nat} (hv : v < ch.length) : enV h.pl B K (nowV h ch l v) = nowZ (cF ch) (eF h B K l) v := by
  unfold nowV nowZ
  rw [Zis hv]
  split
  · rw [if_neg (by omega)]; rfl
  · rw [if_pos (by omega), hst]
theorem imp_of {D : Int} (H : ImOK h K) (hst : enV h.pl B K h.st = .fin 0) (hcl : ch.length = h.o.length) {l : Nat → Vl} {s : List Int × Bool} (hb : BP h B K l ch h.o.length s) : Imp1 (hOw h) (rws h.x) h.pl h.o.length (cF ch) (eF h B K l) (cF s.1) := by
  intro v hv ho
  have hsl : s.1.length = h.o.length := hb.len.trans hcl
  rw [Zis (show v < s.1.length by omega), Zis (show v < ch.length by omega)]
  rcases hb.ow v hv ho with ⟨h1, _⟩ | ⟨w, h1, h2, h3⟩
  · exact .inl h1
  · right
    refine ⟨w.toNat, List.mem_map.2 ⟨w, h1, rfl⟩, ?_, ?_⟩
    · rw [h2]
      obtain ⟨j, hj, rfl⟩ := Zc0 h1
      have := (H.row v hv).2 j hj
      omega
    · rw [Zj6 hst l (by omega)] at h3
      exact h3
theorem ge_pass (H : ImOK h K) (hst : enV h.pl B K h.st = .fin 0) (hB : 900000000000 + 2 ≤ B) (hcl : ch.length = h.o.length) (hc : ∀ v, v < h.o.length → ch.getD v 0 < h.o.length) {φ : Nat → Zv} {l : Nat → Vl} (hl : ∀ i, i ≤ h.o.length → ∀ u, u < h.o.length → VOK K 900000000000 ((Zc3 h ch l i).1 u))
    (h0 : ∀ v, v < h.o.length → hLo h v → φ v = .nev) (hs : ∀ v, v < h.o.length → ¬ hLo h v → hOw h v = h.pl → cF ch v < 0 → (φ v).le (.fin (wtF h.pl B (hPr h) v))) (hed : ∀ v u, v < h.o.length → ¬ hLo h v → EdI (hOw h) (rws h.x) h.pl (cF ch) v u → (φ v).le ((φ u).add (wtF h.pl B (hPr h) v)))
    (hg : ∀ v, v < h.o.length → (φ v).le (eF h B K l v)) : ∀ i, i ≤ h.o.length → ∀ v, v < h.o.length → (φ v).le (eF h B K (Zc3 h ch l i).1 v)
  | 0, _ => hg
  | i + 1, hi => by
    have ih := ge_pass H hst hB hcl hc hl h0 hs hed hg i (by omega)
    rw [Zcr, (Ziy H (by decide) hB hcl hc (hl i (by omega)) (v := i) (by omega)).1]
    exact VI_ge (fun v u hv he => Zkk H hcl hc hv he) h0 hs hed ih (by omega) (Zk1 H hst (by decide) (by omega) hcl hc (hl i (by omega)) (by omega))
theorem ge_it (H : ImOK h K) (hst : enV h.pl B K h.st = .fin 0) (hB : 900000000000 + 2 ≤ B) (hcl : ch.length = h.o.length) (hc : ∀ v, v < h.o.length → ch.getD v 0 < h.o.length) {φ : Nat → Zv}
    (h0 : ∀ v, v < h.o.length → hLo h v → φ v = .nev) (hs : ∀ v, v < h.o.length → ¬ hLo h v → hOw h v = h.pl → cF ch v < 0 → (φ v).le (.fin (wtF h.pl B (hPr h) v))) (hed : ∀ v u, v < h.o.length → ¬ hLo h v → EdI (hOw h) (rws h.x) h.pl (cF ch) v u → (φ v).le ((φ u).add (wtF h.pl B (hPr h) v))) : ∀ j, j ≤ h.o.length → ∀ v, v < h.o.length → (φ v).le (eF h B K (vIt h ch j) v)
  | 0, _ => fun v hv => by
    show (φ v).le (enV h.pl B K ⟨!h.ls.getD v false, h.ls.getD v false, []⟩)
    cases e : h.ls.getD v false with
    | true => rw [h0 v hv e]; exact trivial
    | false => exact Zv.le_evr _
  | j + 1, hj => ge_pass H hst hB hcl hc (Zgt H hc j (by omega)) h0 hs hed (ge_it H hst hB hcl hc h0 hs hed j (by omega)) h.o.length (Nat.le_refl _)
end
section
open Go Pl
def numZ (X : Int) : Zv → Nat
  | .nev => 0
  | .fin x => (x + X).toNat + 1
  | .evr => (2 * X).toNat + 2
def bndZ (X : Int) (z : Zv) : Prop := ∀ x, z = .fin x → -X ≤ x ∧ x ≤ X
theorem num_mono {X : Int} {a b : Zv} (ha : bndZ X a) (h : a.le b) : numZ X a ≤ numZ X b := by
  cases a with
  | nev => exact Nat.zero_le _
  | fin x =>
    have := ha x rfl
    cases b with
    | nev => exact h.elim
    | fin y =>
      have h : x ≤ y := h
      show (x + X).toNat + 1 ≤ (y + X).toNat + 1
      omega
    | evr => show (x + X).toNat + 1 ≤ (2 * X).toNat + 2; omega
  | evr =>
    rw [Zv.evr_le h]; exact Nat.le_refl _
theorem num_lt {X : Int} {a b : Zv} (ha : bndZ X a) (hb : bndZ X b) (h : ¬ b.le a) : numZ X a < numZ X b := by
  cases b with
  | nev => exact absurd trivial h
  | fin y =>
    have hb := hb y rfl
    cases a with
    | nev => exact Nat.succ_pos _
    | fin x =>
      have ha := ha x rfl
      have h : ¬ y ≤ x := h
      show (x + X).toNat + 1 < (y + X).toNat + 1
      omega
    | evr => exact absurd trivial h
  | evr =>
    cases a with
    | nev => exact Nat.succ_pos _
    | fin x =>
      have ha := ha x rfl
      show (x + X).toNat + 1 < (2 * X).toNat + 2
      omega
    | evr => exact absurd trivial h
theorem num_top {X : Int} {a : Zv} (ha : bndZ X a) : numZ X a ≤ (2 * X).toNat + 2 := num_mono (b := .evr) ha (Zv.le_evr _)
def sM (f : Nat → Nat) : Nat → Nat
  | 0 => 0
  | n + 1 => sM f n + f n
theorem sM_le {f g : Nat → Nat} : ∀ {n : Nat}, (∀ v, v < n → f v ≤ g v) → sM f n ≤ sM g n
  | 0, _ => Nat.le_refl _
  | n + 1, h => Nat.add_le_add (sM_le fun v hv => h v (by omega)) (h n (Nat.lt_succ_self _))
theorem sM_lt {f g : Nat → Nat} : ∀ {n : Nat}, (∀ v, v < n → f v ≤ g v) → (∃ v, v < n ∧ f v < g v) → sM f n < sM g n
  | 0, _, ⟨v, hv, _⟩ => absurd hv (Nat.not_lt_zero _)
  | n + 1, h, ⟨v, hv, hl⟩ => by
    have h1 : sM f n ≤ sM g n := sM_le fun v hv => h v (by omega)
    have h2 := h n (Nat.lt_succ_self _)
    show sM f n + f n < sM g n + g n
    rcases Nat.lt_succ_iff_lt_or_eq.1 hv with h3 | rfl
    · have := sM_lt (n := n) (fun v hv => h v (by omega)) ⟨v, h3, hl⟩
      omega
    · omega
def meaZ (X : Int) (n : Nat) (l : Nat → Zv) : Nat := sM (fun v => (2 * X).toNat + 2 - numZ X (l v)) n
theorem meaZ_lt {X : Int} {n : Nat} {l l' : Nat → Zv} (hb : ∀ v, v < n → bndZ X (l v)) (hb' : ∀ v, v < n → bndZ X (l' v)) (hle : ∀ v, v < n → (l v).le (l' v)) (hs : ∃ v, v < n ∧ ¬ (l' v).le (l v)) : meaZ X n l' < meaZ X n l := by
  refine sM_lt (fun v hv => ?_) ?_
  · have := num_mono (hb v hv) (hle v hv)
    omega
  · obtain ⟨v, hv, h⟩ := hs
    have h1 := num_lt (hb v hv) (hb' v hv) h
    have h2 := num_top (hb' v hv)
    exact ⟨v, hv, by omega⟩
theorem add_cancel {a b : Zv} {x : Int} (h : (a.add x).le (b.add x)) : a.le b := by
  cases a <;> cases b <;> simp only [Zv.le, Zv.add] at * <;> omega
variable {h : Im} {B : Int} {K : Nat} {ch : List Int}
structure ChI (h : Im) (B : Int) (K : Nat) (ch : List Int) (k : Nat) : Prop where
  ok : ChOK h ch
  kn : k ≤ h.o.length
  ve : VEnd h ch k
  hch : ∀ v, v < h.o.length → hOw h v = h.pl → 0 ≤ cF ch v → eF h B K (vIt h ch k) (cF ch v).toNat ≠ .nev
  row : ∀ v, v < h.o.length → (hOw h v = h.pl → ch.getD v 0 = -1 ∨ ch.getD v 0 ∈ h.x.getD v []) ∧ (hOw h v ≠ h.pl → ch.getD v 0 = -1)
structure ImG (h : Im) (B : Int) (K : Nat) : Prop where
  ok : ImOK h K
  st : enV h.pl B K h.st = .fin 0
  B : 2 * 900000000000 + 2 ≤ B
  lo : ∀ v, hLo h v → hOw h v ≠ h.pl
theorem ChI.fx {k : Nat} (G : ImG h B K) (C : ChI h B K ch k) : Fx (hOw h) (hPr h) (rws h.x) h.pl B h.o.length (hLo h) (cF ch) (eF h B K (vIt h ch k)) := fx_of G.ok G.st (by have := G.B; omega) C.ok G.lo C.kn C.ve C.hch
theorem ChI.bp {k : Nat} (G : ImG h B K) (C : ChI h B K ch k) : BP h B K (vIt h ch k) ch h.o.length (bNx h ch k) := bp_all G.ok (D := 900000000000) (by decide) (by have := G.B; omega) (Zkf G.ok C.ok C.kn) C.ok.len C.ok.lt h.o.length (Nat.le_refl _)
theorem ChI.bnd {k : Nat} (G : ImG h B K) (C : ChI h B K ch k) : ∀ v, v < h.o.length → bndZ (B ^ K) (eF h B K (vIt h ch k) v) := fun v hv x hx => by
  obtain ⟨e, d⟩ := Zkl G.ok C.ok C.kn v hv x hx
  have := Ziq (pl := h.pl) (B := B) (D := 900000000000) (by decide) (by have := G.B; omega) (f := fun q => (vIt h ch k v).m.getD q 0) (k := K) fun q _ => by
    have d2 : 0 ≤ (vIt h ch k v).m.getD q 0 ∧ (vIt h ch k v).m.getD q 0 ≤ 900000000000 := d q
    omega
  have e2 : x = enF h.pl B (fun q => (vIt h ch k v).m.getD q 0) K := e
  omega
theorem chi_next {k : Nat} (G : ImG h B K) (C : ChI h B K ch k) (hf : (bNx h ch k).2 = true) : ∃ k', ChI h B K (bNx h ch k).1 k' ∧ meaZ (B ^ K) h.o.length (eF h B K (vIt h (bNx h ch k).1 k')) < meaZ (B ^ K) h.o.length (eF h B K (vIt h ch k)) := by
  have F := C.fx G
  have P := C.bp G
  have hB := G.B
  have hI := imp_of (D := 900000000000) G.ok G.st C.ok.len P
  have hfl := P.fl.1 hf
  have hdig := Zkl (B := B) G.ok C.ok C.kn
  generalize hs : bNx h ch k = s at *
  have hsl : s.1.length = h.o.length := P.len.trans C.ok.len
  have hrow2 : ∀ v, v < h.o.length → (hOw h v = h.pl → s.1.getD v 0 = -1 ∨ s.1.getD v 0 ∈ h.x.getD v []) ∧ (hOw h v ≠ h.pl → s.1.getD v 0 = -1) := fun v hv => by
    obtain ⟨r1, r2⟩ := C.row v hv
    refine ⟨fun ho => ?_, fun ho => ?_⟩
    · rcases P.ow v hv ho with ⟨e, _⟩ | ⟨w, h1, h2, _⟩
      · rw [e]; exact r1 ho
      · rw [h2]; exact .inr h1
    · rw [P.ot v hv ho]; exact r2 ho
  have hlt2 : ∀ v, v < h.o.length → s.1.getD v 0 < h.o.length := fun v hv => by
    obtain ⟨r1, r2⟩ := hrow2 v hv
    by_cases ho : hOw h v = h.pl
    · rcases r1 ho with e | e
      · omega
      · obtain ⟨j, hj, e2⟩ := Zc0 e
        have := (G.ok.row v hv).2 j hj
        omega
    · have := r2 ho; omega
  have hnb2 : NBh h s.1 := nb_imp (D := 900000000000) (by decide) (by omega) hdig (fun v hv => G.ok.p0 v hv) (fun v u hv he => Zkk G.ok hsl hlt2 hv he) F hI C.ok.nb
  have hok2 : ChOK h s.1 := ⟨hsl, hlt2, hnb2⟩
  obtain ⟨k', hk', hE'⟩ := vend_ex G.ok G.st (by omega) hok2
  have hge := ge_it (φ := eF h B K (vIt h ch k)) G.ok G.st (by omega) hsl hlt2 F.ls (fun v hv _ ho hc => imp_st F hI hv ho hc) (fun v u hv hl he => Zjo F hI hv hl he) k' hk'
  have hch2 : ∀ v, v < h.o.length → hOw h v = h.pl → 0 ≤ cF s.1 v → eF h B K (vIt h s.1 k') (cF s.1 v).toNat ≠ .nev := fun v hv ho hc e => by
    have hcv : cF s.1 v = s.1.getD v 0 := Zis (by omega)
    have hlt := hlt2 v hv
    have h1 := hge (cF s.1 v).toNat (by omega)
    rw [e] at h1
    have h1 := Zv.le_nev h1
    rcases hI v hv ho with e2 | ⟨u, _, e2, h3⟩
    · rw [e2] at h1 hc
      exact C.hch v hv ho hc h1
    · rw [e2, Int.toNat_natCast] at h1
      rw [h1] at h3
      exact h3 trivial
  have C2 : ChI h B K s.1 k' := ⟨hok2, hk', hE', hch2, hrow2⟩
  refine ⟨k', C2, meaZ_lt (C.bnd G) (C2.bnd G) hge ?_⟩
  obtain ⟨v, hv, ho, w, hw, hcw, hn⟩ := hfl
  refine ⟨v, hv, fun hle => hn ?_⟩
  have F2 := C2.fx G
  have e1 := Zf8 F hv ho
  have e2 := Zf8 F2 hv ho
  have hw0 : 0 ≤ w := by
    obtain ⟨j, hj, rfl⟩ := Zc0 hw
    exact ((G.ok.row v hv).2 j hj).1
  have hwl : w.toNat < h.o.length := by
    have := hlt2 v hv
    omega
  have hnow2 : nowZ (cF s.1) (eF h B K (vIt h s.1 k')) v = eF h B K (vIt h s.1 k') w.toNat := by
    unfold nowZ
    rw [Zis (show v < s.1.length by omega), hcw, if_neg (by omega)]
  rw [e1, e2, hnow2] at hle
  have h5 := add_cancel hle
  rw [Zj6 G.st (vIt h ch k) (by have := C.ok.len; omega)]
  exact Zv.le_trans (hge w.toNat hwl) h5
structure FinI (h : Im) (B : Int) (K : Nat) (C : List Int) (k : Nat) : Prop where
  chi : ChI h B K C k
  no : ∀ v, v < h.o.length → hOw h v = h.pl → ∀ u, u ∈ rws h.x v → (eF h B K (vIt h C k) u).le (nowZ (cF C) (eF h B K (vIt h C k)) v)
theorem brun_ex (G : ImG h B K) : ∀ (m : Nat) (ch : List Int) (k : Nat), ChI h B K ch k → meaZ (B ^ K) h.o.length (eF h B K (vIt h ch k)) ≤ m → ∃ r L C kf, BRun h r ch k L C ∧ L = vIt h C kf ∧ FinI h B K C kf := by
  intro m
  induction m with
  | zero =>
    intro ch k C hm
    cases hf : (bNx h ch k).2 with
    | true =>
      obtain ⟨k', C2, hlt⟩ := chi_next G C hf
      omega
    | false => exact brun_end G C hf
  | succ m ih =>
    intro ch k C hm
    cases hf : (bNx h ch k).2 with
    | true =>
      obtain ⟨k', C2, hlt⟩ := chi_next G C hf
      obtain ⟨r, L, Cf, kf, h1, h2, h3⟩ := ih _ k' C2 (by omega)
      exact ⟨r + 1, L, Cf, kf, .more C.ve hf h1, h2, h3⟩
    | false => exact brun_end G C hf
where
  brun_end {ch : List Int} {k : Nat} (G : ImG h B K) (C : ChI h B K ch k) (hf : (bNx h ch k).2 = false) : ∃ r L Cf kf, BRun h r ch k L Cf ∧ L = vIt h Cf kf ∧ FinI h B K Cf kf := by
    have P := C.bp G
    have hk : ∀ v, v < h.o.length → hOw h v = h.pl → Zkr h B K (vIt h ch k) ch (bNx h ch k).1 v := fun v hv ho => by
      rcases P.ow v hv ho with h1 | h1
      · exact h1
      · exfalso
        have := P.fl.2 ⟨v, hv, ho, h1⟩
        rw [hf] at this; cases this
    have he : (bNx h ch k).1 = ch := ext0 P.len fun v hv => by
      rw [P.len, C.ok.len] at hv
      by_cases ho : hOw h v = h.pl
      · exact (hk v hv ho).1
      · exact P.ot v hv ho
    refine ⟨0, _, _, k, .stop C.ve hf, by rw [he], ?_⟩
    rw [he]
    refine ⟨C, fun v hv ho u hu => ?_⟩
    obtain ⟨w, hw, rfl⟩ := List.mem_map.1 hu
    have := (hk v hv ho).2 w hw
    rw [Zj6 G.st (vIt h ch k) (by have := C.ok.len; omega)] at this
    exact this
end
open Go Pl
def badS : Spec
  | [.agg (.cons (.roI o) (.cons (.roI p) (.cons (.roII x) (.cons (.int .i64 pl) (.cons (.roI c) .nil)))))] => some ⟨True, .fn 52 (.cons (.rop (.agg (.cons (.roI o) (.cons (.roI p) (.cons (.roII x) (.cons (.int .i64 pl) (.cons (.roI c) .nil))))))) .nil), none⟩
  | _ => none
set_option maxRecDepth 4000 in
set_option maxHeartbeats 4000000 in
theorem bad_ok : Zb2 Try.prog 39 badS := by
  refine Za3 htb (fn := Try.f39) (by kernel_rfl) (by kernel_rfl) rfl (fun args r hS => ?_) (fun args r hS hob hl => ?_)
  · unfold badS at hS; split at hS <;> first | (cases hS; done) | (cases hS; exact Nat.le_of_ble_eq_true rfl)
  unfold badS at hS
  split at hS
  case h_2 => cases hS
  rename_i o p x pl c
  simp only [Option.some.injEq] at hS
  subst hS
  simp only [lenP, mkL, lim] at hl
  dsimp only at hob
  repeat' first
    | with_reducible first | apply Zan | apply Zaj | apply Zab | apply Zac | apply Zag | apply Zal | apply Zaf | apply Zah | apply Zam | apply Zao | apply Zak
    | ((with_reducible refine Zap ?_); refine Zai rfl ?_ ?_ <;> intro hb <;> (try simp only [zH] at hb)) | ((with_reducible refine Zax ?_); (first | refine Zad htb hmz noSp fF rfl rfl ?_ | refine Zae hmo htb hmz noSp fF rfl rfl (by kernel_rfl) ?_); intro _ _ _ _ h; simp only [zE, evp, evx, ev1, evLoad, evStore, evBin, Zaa, forall_const, z38, tb, reduceAdd, reduceSub, reduceMul, reduceEqDiff, reduceLeDiff, reduceLT, Nat.reduceBEq, Nat.reduceBNe, ↓reduceIte, reduceIte] at h; obtain ⟨rfl, rfl, rfl, rfl⟩ := h; refine ⟨?_, ?_⟩) | ((with_reducible refine Ob.mk ?_); first | exact trivial | (intros; omega) | ((repeat' first | apply And.intro | (intro a; have b := a; try simp only [zH] at b)) <;> first | assumption | omega | (simp only [zH]; omega)))
  refine Zav rfl rfl (Zas rfl ?_ rfl)
  rfl
open Classical in
noncomputable def bdK (o p : List Int) (x : List (List Int)) (pl : Int) (c : List Int) : List Bool := (List.range o.length).map fun v => decide (p.getD v 0 % 2 ≠ pl ∧ Cyc (fun a b => b ∈ nxN o x pl c a) (fun v => p.getD v 0) v)
theorem Zjd {o p : List Int} {x : List (List Int)} {pl : Int} {c : List Int} {v : Nat} (hv : v < o.length) : (bdK o p x pl c).getD v false = true ↔ p.getD v 0 % 2 ≠ pl ∧ Cyc (fun a b => b ∈ nxN o x pl c a) (fun v => p.getD v 0) v := by
  simp [bdK, List.getD_eq_getElem?_getD, hv]
def bdW (o p : List Int) (x : List (List Int)) (pl : Int) (c : List Int) (v : Nat) (li : List Int) : Prop := ∃ (L : List (Nat × Nat)) (r : List Nat), li = Zb4 r ∧ RE (nxN o x pl c) (fun w => p.getD w 0 ≤ p.getD v 0) o.length v L ∧ BkR (nxN o x pl c) L v v r
set_option maxRecDepth 4000 in
set_option maxHeartbeats 4000000 in
theorem bad11_fg {o p c : List Int} {x : List (List Int)} {pl q : Int} {w : Nat} (hw : w < p.length) : FG Try.prog 53 [.int .i64 w, .rop (.agg (.cons (.roI o) (.cons (.roI p) (.cons (.roII x) (.cons (.int .i64 pl) (.cons (.roI c) .nil)))))), .rop (.int .i64 q)] [] 0 fun g => g = ⟨0, .bool (decide (p.getD w 0 ≤ q)), []⟩ := by
  refine Zf5 htb (fn := Try.f53) (by kernel_rfl) (by kernel_rfl) rfl (Nat.le_of_ble_eq_true rfl) fun hl => ?_
  simp only [lenP, mkL, lim] at hl
  repeat' first
    | with_reducible first | apply Zan | apply Zaj | apply Zab | apply Zac | apply Zag | apply Zal | apply Zaf | apply Zah | apply Zam | apply Zao | apply Zak
    | ((with_reducible refine Zap ?_); refine Zai rfl ?_ ?_ <;> intro hb <;> (try simp only [zH] at hb)) | ((with_reducible refine Zax ?_); (first | refine Zad htb hmz noSp fF rfl rfl ?_ | refine Zae hmo htb hmz noSp fF rfl rfl (by kernel_rfl) ?_); intro _ _ _ _ h; simp only [zE, evp, evx, ev1, evLoad, evStore, evBin, Zaa, forall_const, z38, tb, reduceAdd, reduceSub, reduceMul, reduceEqDiff, reduceLeDiff, reduceLT, Nat.reduceBEq, Nat.reduceBNe, ↓reduceIte, reduceIte] at h; obtain ⟨rfl, rfl, rfl, rfl⟩ := h; refine ⟨?_, ?_⟩) | ((with_reducible refine Ob.mk ?_); first | exact trivial | (intros; omega) | ((repeat' first | apply And.intro | (intro a; have b := a; try simp only [zH] at b)) <;> first | assumption | omega | (simp only [zH]; omega)))
  refine Zav rfl rfl (Zee (⟨0, .bool (decide (p.getD w 0 ≤ q)), []⟩) ([]) rfl rfl (Zcb rfl) ?_)
  simp only [grR, zE, evp, evx, ev1, evLoad, evStore, evBin, Zaa, forall_const, z38, tb, reduceAdd, reduceSub, reduceMul, reduceEqDiff, reduceLeDiff, reduceLT, Nat.reduceBEq, Nat.reduceBNe, ↓reduceIte, reduceIte]
structure MbT (τ : Type) where
  i : Nat
  t : τ
set_option maxRecDepth 4000 in
set_option maxHeartbeats 4000000 in
theorem bad1_iter {o p c : List Int} {x : List (List Int)} {pl : Int} (hn : o.length ≤ 20000) (hpl : p.length = o.length) (hp0 : ∀ v, v < o.length → 0 ≤ p.getD v 0) (hxl : x.length = o.length) (hcl : ∀ v, v < o.length → o.getD v 0 = pl → v < c.length)
    (hrow : ∀ v, v < o.length → (nxF ⟨o, p, x⟩ c pl v).length ≤ 64 ∧ ∀ j, j < (nxF ⟨o, p, x⟩ c pl v).length → 0 ≤ (nxF ⟨o, p, x⟩ c pl v).getD j 0 ∧ (nxF ⟨o, p, x⟩ c pl v).getD j 0 < (o.length : Int))
    {τ : Type} (I X : τ → Prop) (ix : τ → Nat) (hI : ∀ t, I t → ix t ≤ (kp (bdK o p x pl c) o.length).length) :
    IterU Try.prog 52 (.rop (.agg (.cons (.roI o) (.cons (.roI p) (.cons (.roII x) (.cons (.int .i64 pl) (.cons (.roI c) .nil))))))) I X (fun t => (((kp (bdK o p x pl c) o.length).getD (ix t) 0 : Nat) : Int)) (fun t li => bdW o p x pl c ((kp (bdK o p x pl c) o.length).getD (ix t) 0) li) (fun t => ix t < (kp (bdK o p x pl c) o.length).length) (fun t t' => ix t' = ix t + 1) (fun t => ix t = 0) (fun t => ix t = (kp (bdK o p x pl c) o.length).length) := by
  intro A hY t0 h0 hi0
  refine Zf5 htb (fn := Try.f52) (by kernel_rfl) (by kernel_rfl) rfl (Nat.le_of_ble_eq_true rfl) fun hl => ?_
  simp only [lenP, mkL, lim] at hl
  repeat' first
    | with_reducible first | apply Zan | apply Zaj | apply Zab | apply Zac | apply Zag | apply Zal | apply Zaf | apply Zah | apply Zam | apply Zao | apply Zak
    | ((with_reducible refine Zap ?_); refine Zai rfl ?_ ?_ <;> intro hb <;> (try simp only [zH] at hb)) | ((with_reducible refine Zax ?_); (first | refine Zad htb hmz noSp fF rfl rfl ?_ | refine Zae hmo htb hmz noSp fF rfl rfl (by kernel_rfl) ?_); intro _ _ _ _ h; simp only [zE, evp, evx, ev1, evLoad, evStore, evBin, Zaa, forall_const, z38, tb, reduceAdd, reduceSub, reduceMul, reduceEqDiff, reduceLeDiff, reduceLT, Nat.reduceBEq, Nat.reduceBNe, ↓reduceIte, reduceIte] at h; obtain ⟨rfl, rfl, rfl, rfl⟩ := h; refine ⟨?_, ?_⟩) | ((with_reducible refine Ob.mk ?_); first | exact trivial | (intros; omega) | ((repeat' first | apply And.intro | (intro a; have b := a; try simp only [zH] at b)) <;> first | assumption | omega | (simp only [zH]; omega)))
  have hkl := kp_len (k := bdK o p x pl c) (n := o.length)
  have hbd := fun v (hv : v < o.length) => Zjd (o := o) (p := p) (x := x) (pl := pl) (c := c) hv
  generalize hK : bdK o p x pl c = K at *
  refine Zat (τ := MbT τ) (fun s => s.i ≤ o.length ∧ I s.t ∧ ix s.t = (kp K s.i).length) (fun s => ⟨7, [(12, .int .i64 s.i), (11, .int .i64 p.length), (10, .roI p), (0, .yld 0), (1, .rop (.agg (.cons (.roI o) (.cons (.roI p) (.cons (.roII x) (.cons (.int .i64 pl) (.cons (.roI c) .nil)))))))], [(1, some (.sem [0] (A true s.t)))], []⟩) (fun s => o.length - s.i) ⟨0, t0⟩ [] ?_ ⟨Nat.zero_le _, h0, hi0⟩ ?_
  · refine ⟨rfl, ?_, ?_⟩ <;> simp only [zE, evp, evx, ev1, evLoad, evStore, evBin, Zaa, forall_const, z38, tb, reduceAdd, reduceSub, reduceMul, reduceEqDiff, reduceLeDiff, reduceLT, Nat.reduceBEq, Nat.reduceBNe, ↓reduceIte, reduceIte, zI]
    intro k hk
    rw [List.mem_singleton.1 hk]; rfl
  rintro ⟨i, t⟩ ⟨hi, ht, hit⟩
  dsimp only at hi ht hit ⊢
  have hkn : kp K (i + 1) = if K.getD i false = true then kp K i ++ [i] else kp K i := kp_succ
  have hI1 := hI t ht
  have hbd1 := hbd i
  have hp01 := hp0 i
  repeat' first
    | with_reducible first | apply Zan | apply Zaj | apply Zab | apply Zac | apply Zag | apply Zal | apply Zaf | apply Zah | apply Zam | apply Zao | apply Zak
    | ((with_reducible refine Zap ?_); refine Zai rfl ?_ ?_ <;> intro hb <;> (try simp only [zH] at hb)) | ((with_reducible refine Zaq 3 ?_ ?_); (· exact rfl); (with_reducible refine Zaq 8 ?_ ?_); (· exact rfl); (first | refine Zad htb hmz noSp fF rfl rfl ?_ | refine Zae hmo htb hmz noSp fF rfl rfl (by kernel_rfl) ?_); intro _ _ _ _ h; simp only [zE, evp, evx, ev1, evLoad, evStore, evBin, Zaa, forall_const, z38, tb, reduceAdd, reduceSub, reduceMul, reduceEqDiff, reduceLeDiff, reduceLT, Nat.reduceBEq, Nat.reduceBNe, ↓reduceIte, reduceIte] at h; obtain ⟨rfl, rfl, rfl, rfl⟩ := h; refine ⟨?_, ?_⟩) | ((with_reducible refine Ob.mk ?_); first | exact trivial | (intros; omega) | ((repeat' first | apply And.intro | (intro a; have b := a; try simp only [zH] at b)) <;> first | assumption | omega | (simp only [zH]; omega)))
  · have hil : i < o.length := by omega
    have hbd1 := hbd1 hil
    have hp01 := hp01 hil
    refine Zbi 11 (.rop (.int .i64 (p.getD i 0))) (by simp only [Zar, Zaw, fzE, fzA, fzR, fzB, set1, nbeq, reduceEqDiff, decide_true, decide_false, ↓reduceIte, reduceIte, cond_true, cond_false, List.take_length, Option.some.injEq]; rfl) (by first | exact rfl | (refine ⟨?_, rfl⟩; first | rfl | (intros; rfl))) (by simp only [Zar, Zaw, fzE, fzA, fzR, fzB, set1, nbeq, reduceEqDiff, decide_true, decide_false, ↓reduceIte, reduceIte, cond_true, cond_false, List.take_length, Option.some.injEq]; rfl) (by simp only [Zar, Zaw, fzE, fzA, fzR, fzB, set1, nbeq, reduceEqDiff, decide_true, decide_false, ↓reduceIte, reduceIte, cond_true, cond_false, List.take_length, Option.some.injEq]; rfl) ?_
    repeat' first
      | with_reducible first | apply Zan | apply Zaj | apply Zab | apply Zac | apply Zag | apply Zal | apply Zaf | apply Zah | apply Zam | apply Zao | apply Zak
      | ((with_reducible refine Zap ?_); refine Zai rfl ?_ ?_ <;> intro hb <;> (try simp only [zH] at hb)) | ((with_reducible refine Zaq 4 ?_ ?_); (· exact rfl); (with_reducible refine Zaq 8 ?_ ?_); (· exact rfl); (first | refine Zad htb hmz noSp fF rfl rfl ?_ | refine Zae hmo htb hmz noSp fF rfl rfl (by kernel_rfl) ?_); intro _ _ _ _ h; simp only [zE, evp, evx, ev1, evLoad, evStore, evBin, Zaa, forall_const, z38, tb, reduceAdd, reduceSub, reduceMul, reduceEqDiff, reduceLeDiff, reduceLT, Nat.reduceBEq, Nat.reduceBNe, ↓reduceIte, reduceIte] at h; obtain ⟨rfl, rfl, rfl, rfl⟩ := h; refine ⟨?_, ?_⟩) | ((with_reducible refine Ob.mk ?_); first | exact trivial | (intros; omega) | ((repeat' first | apply And.intro | (intro a; have b := a; try simp only [zH] at b)) <;> first | assumption | omega | (simp only [zH]; omega)))
    · have hkf : K.getD i false = false := by
        cases h : K.getD i false with
        | false => rfl
        | true => exact absurd hb (hbd1.1 h).1
      rw [if_neg (by rw [hkf]; decide)] at hkn
      refine back ⟨i + 1, t⟩ [] ?_ ⟨by dsimp only; omega, ht, ?_⟩ (by dsimp only; omega)
      · refine ⟨rfl, ?_, ?_⟩ <;> simp only [zE, evp, evx, ev1, evLoad, evStore, evBin, Zaa, forall_const, z38, tb, reduceAdd, reduceSub, reduceMul, reduceEqDiff, reduceLeDiff, reduceLT, Nat.reduceBEq, Nat.reduceBNe, ↓reduceIte, reduceIte, zI]
        intro k hk
        rw [List.mem_singleton.1 hk]; rfl
      · dsimp only
        rw [hit, hkn]
    · have hpm : p.getD i 0 % 2 ≠ pl := hb
      clear hb
      refine Zcy ([_, _, _]) ([_]) rfl rfl ?_
      refine Zay htb hmz noSp fF rfl rfl rfl ?_; intro _ _ _ _ h; simp only [zE, evp, evx, ev1, evLoad, evStore, evBin, Zaa, forall_const, z38, tb, reduceAdd, reduceSub, reduceMul, reduceEqDiff, reduceLeDiff, reduceLT, Nat.reduceBEq, Nat.reduceBNe, ↓reduceIte, reduceIte] at h; obtain ⟨rfl, rfl, rfl, rfl⟩ := h; refine ⟨?_, Zab ?_⟩
      · first | ((with_reducible refine Ob.mk ?_); first | exact trivial | (intros; omega) | ((repeat' first | apply And.intro | (intro a; have b := a; try simp only [zH] at b)) <;> first | assumption | omega | (simp only [zH]; omega))) | skip
      refine Zbg ([]) (reached_fg (o := o) (p := p) (c := c) (x := x) (pl := pl) (th := fun w => decide (p.getD w 0 ≤ p.getD i 0)) hn hil hxl hcl hrow (fun w hw => bad11_fg (by omega))) rfl rfl rfl rfl rfl rfl rfl rfl rfl (by simp only [rinR, rhoC, zE, evp, evx, ev1, evLoad, evStore, evBin, Zaa, forall_const, z38, tb, reduceAdd, reduceSub, reduceMul, reduceEqDiff, reduceLeDiff, reduceLT, Nat.reduceBEq, Nat.reduceBNe, ↓reduceIte, reduceIte]) ?_; intro gm gv gr hq m' e' l' h; obtain ⟨L, es, clk, ⟨hE, hM⟩, hq⟩ := hq; simp only [GR.mk.injEq] at hq; obtain ⟨rfl, rfl, rfl⟩ := hq; simp only [rhoC, outR, renR, dels, zE, evp, evx, ev1, evLoad, evStore, evBin, Zaa, forall_const, z38, tb, reduceAdd, reduceSub, reduceMul, reduceEqDiff, reduceLeDiff, reduceLT, Nat.reduceBEq, Nat.reduceBNe, ↓reduceIte, reduceIte] at h; obtain ⟨rfl, rfl, rfl⟩ := h; refine Zab ?_
      refine Zay htb hmz noSp fF rfl rfl rfl ?_; intro _ _ _ _ h; simp only [zE, evp, evx, ev1, evLoad, evStore, evBin, Zaa, forall_const, z38, tb, reduceAdd, reduceSub, reduceMul, reduceEqDiff, reduceLeDiff, reduceLT, Nat.reduceBEq, Nat.reduceBNe, ↓reduceIte, reduceIte] at h; obtain ⟨rfl, rfl, rfl, rfl⟩ := h; refine ⟨?_, ?_⟩
      · first | ((with_reducible refine Ob.mk ?_); first | exact trivial | (intros; omega) | ((repeat' first | apply And.intro | (intro a; have b := a; try simp only [zH] at b)) <;> first | assumption | omega | (simp only [zH]; omega))) | skip
      have hth : (fun w => (decide (p.getD w 0 ≤ p.getD i 0)) = true) = fun w => p.getD w 0 ≤ p.getD i 0 := funext fun w => by simp
      rw [hth] at hE
      have hin : i ∈ L.map Prod.fst ↔ Cyc (fun a b => b ∈ nxN o x pl c a) (fun v => p.getD v 0) i := RE_iff hE i
      have hhas := hM.has i
      refine Zab ?_
      repeat' first
        | with_reducible first | apply Zan | apply Zaj | apply Zab | apply Zac | apply Zag | apply Zal | apply Zaf | apply Zah | apply Zam | apply Zao | apply Zak
        | ((with_reducible refine Zap ?_); refine Zai rfl ?_ ?_ <;> intro hb <;> (try simp only [zH] at hb)) | ((with_reducible refine Zaq 6 ?_ ?_); (· exact rfl); (first | refine Zad htb hmz noSp fF rfl rfl ?_ | refine Zae hmo htb hmz noSp fF rfl rfl (by kernel_rfl) ?_); intro _ _ _ _ h; simp only [zE, evp, evx, ev1, evLoad, evStore, evBin, Zaa, forall_const, z38, tb, reduceAdd, reduceSub, reduceMul, reduceEqDiff, reduceLeDiff, reduceLT, Nat.reduceBEq, Nat.reduceBNe, ↓reduceIte, reduceIte] at h; obtain ⟨rfl, rfl, rfl, rfl⟩ := h; refine ⟨?_, ?_⟩) | ((with_reducible refine Ob.mk ?_); first | exact trivial | (intros; omega) | ((repeat' first | apply And.intro | (intro a; have b := a; try simp only [zH] at b)) <;> first | assumption | omega | (simp only [zH]; omega)))
      cases hh : mhas (i : Int) es with
      | true =>
        rw [hh] at hhas
        have hiL : i ∈ L.map Prod.fst := of_decide_eq_true hhas.symm
        have hbb : K.getD i false = true := hbd1.2 ⟨hpm, hin.1 hiL⟩
        rw [if_pos hbb] at hkn
        obtain ⟨hk1, hk2⟩ := Zkd hbb hil
        refine Zfu ?_
        refine Zb9 rfl ?_
        dsimp only [noGd]
        refine Zay htb hmz noSp fF rfl rfl rfl ?_; intro _ _ _ _ h; simp only [zE, evp, evx, ev1, evLoad, evStore, evBin, Zaa, forall_const, z38, tb, reduceAdd, reduceSub, reduceMul, reduceEqDiff, reduceLeDiff, reduceLT, Nat.reduceBEq, Nat.reduceBNe, ↓reduceIte, reduceIte] at h; obtain ⟨rfl, rfl, rfl, rfl⟩ := h; refine ⟨?_, Zab ?_⟩
        · first | ((with_reducible refine Ob.mk ?_); first | exact trivial | (intros; omega) | ((repeat' first | apply And.intro | (intro a; have b := a; try simp only [zH] at b)) <;> first | assumption | omega | (simp only [zH]; omega))) | skip
        refine Zb9 rfl ?_
        dsimp only [noGd]
        refine Zay htb hmz noSp fF rfl rfl rfl ?_; intro _ _ _ _ h; simp only [zE, evp, evx, ev1, evLoad, evStore, evBin, Zaa, forall_const, z38, tb, reduceAdd, reduceSub, reduceMul, reduceEqDiff, reduceLeDiff, reduceLT, Nat.reduceBEq, Nat.reduceBNe, ↓reduceIte, reduceIte] at h; obtain ⟨rfl, rfl, rfl, rfl⟩ := h; refine ⟨?_, Zab ?_⟩
        · first | ((with_reducible refine Ob.mk ?_); first | exact trivial | (intros; omega) | ((repeat' first | apply And.intro | (intro a; have b := a; try simp only [zH] at b)) <;> first | assumption | omega | (simp only [zH]; omega))) | skip
        refine Zcm rfl rfl rfl rfl ?_
        dsimp only [noGd]
        refine Zay htb hmz noSp fF rfl rfl rfl ?_; intro _ _ _ _ h; simp only [zE, evp, evx, ev1, evLoad, evStore, evBin, Zaa, forall_const, z38, tb, reduceAdd, reduceSub, reduceMul, reduceEqDiff, reduceLeDiff, reduceLT, Nat.reduceBEq, Nat.reduceBNe, ↓reduceIte, reduceIte] at h; obtain ⟨rfl, rfl, rfl, rfl⟩ := h; refine ⟨?_, Zab ?_⟩
        · first | ((with_reducible refine Ob.mk ?_); first | exact trivial | (intros; omega) | ((repeat' first | apply And.intro | (intro a; have b := a; try simp only [zH] at b)) <;> first | assumption | omega | (simp only [zH]; omega))) | skip
        refine Zcm rfl rfl rfl rfl ?_
        dsimp only [noGd]
        refine Zay htb hmz noSp fF rfl rfl rfl ?_; intro _ _ _ _ h; simp only [zE, evp, evx, ev1, evLoad, evStore, evBin, Zaa, forall_const, z38, tb, reduceAdd, reduceSub, reduceMul, reduceEqDiff, reduceLeDiff, reduceLT, Nat.reduceBEq, Nat.reduceBNe, ↓reduceIte, reduceIte] at h; obtain ⟨rfl, rfl, rfl, rfl⟩ := h; refine ⟨?_, Zab ?_⟩
        · first | ((with_reducible refine Ob.mk ?_); first | exact trivial | (intros; omega) | ((repeat' first | apply And.intro | (intro a; have b := a; try simp only [zH] at b)) <;> first | assumption | omega | (simp only [zH]; omega))) | skip
        refine Zcm rfl rfl rfl rfl ?_
        dsimp only [noGd]
        refine Zay htb hmz noSp fF rfl rfl rfl ?_; intro _ _ _ _ h; simp only [zE, evp, evx, ev1, evLoad, evStore, evBin, Zaa, forall_const, z38, tb, reduceAdd, reduceSub, reduceMul, reduceEqDiff, reduceLeDiff, reduceLT, Nat.reduceBEq, Nat.reduceBNe, ↓reduceIte, reduceIte] at h; obtain ⟨rfl, rfl, rfl, rfl⟩ := h; refine ⟨?_, Zab ?_⟩
        · first | ((with_reducible refine Ob.mk ?_); first | exact trivial | (intros; omega) | ((repeat' first | apply And.intro | (intro a; have b := a; try simp only [zH] at b)) <;> first | assumption | omega | (simp only [zH]; omega))) | skip
        refine Zcm rfl rfl rfl rfl ?_
        dsimp only [noGd]
        refine Zay htb hmz noSp fF rfl rfl rfl ?_; intro _ _ _ _ h; simp only [zE, evp, evx, ev1, evLoad, evStore, evBin, Zaa, forall_const, z38, tb, reduceAdd, reduceSub, reduceMul, reduceEqDiff, reduceLeDiff, reduceLT, Nat.reduceBEq, Nat.reduceBNe, ↓reduceIte, reduceIte] at h; obtain ⟨rfl, rfl, rfl, rfl⟩ := h; refine ⟨?_, Zab ?_⟩
        · first | ((with_reducible refine Ob.mk ?_); first | exact trivial | (intros; omega) | ((repeat' first | apply And.intro | (intro a; have b := a; try simp only [zH] at b)) <;> first | assumption | omega | (simp only [zH]; omega))) | skip
        refine Zcm rfl rfl rfl rfl ?_
        dsimp only [noGd]
        refine Zay htb hmz noSp fF rfl rfl rfl ?_; intro _ _ _ _ h; simp only [zE, evp, evx, ev1, evLoad, evStore, evBin, Zaa, forall_const, z38, tb, reduceAdd, reduceSub, reduceMul, reduceEqDiff, reduceLeDiff, reduceLT, Nat.reduceBEq, Nat.reduceBNe, ↓reduceIte, reduceIte] at h; obtain ⟨rfl, rfl, rfl, rfl⟩ := h; refine ⟨?_, Zab ?_⟩
        · first | ((with_reducible refine Ob.mk ?_); first | exact trivial | (intros; omega) | ((repeat' first | apply And.intro | (intro a; have b := a; try simp only [zH] at b)) <;> first | assumption | omega | (simp only [zH]; omega))) | skip
        refine Zcm rfl rfl rfl rfl ?_
        dsimp only [noGd]
        refine Zbg ([22]) (back_fg (clk := clk) hn hE hM hiL) rfl rfl rfl rfl rfl rfl rfl rfl rfl (by simp only [rinR, rhoC, zE, evp, evx, ev1, evLoad, evStore, evBin, Zaa, forall_const, z38, tb, reduceAdd, reduceSub, reduceMul, reduceEqDiff, reduceLeDiff, reduceLT, Nat.reduceBEq, Nat.reduceBNe, ↓reduceIte, reduceIte]) ?_; intro gm gv gr hq m' e' l' h; obtain ⟨r, hB, hq⟩ := hq; simp only [GR.mk.injEq] at hq; obtain ⟨rfl, rfl, rfl⟩ := hq; simp only [rhoC, outR, renR, dels, zE, evp, evx, ev1, evLoad, evStore, evBin, Zaa, forall_const, z38, tb, reduceAdd, reduceSub, reduceMul, reduceEqDiff, reduceLeDiff, reduceLT, Nat.reduceBEq, Nat.reduceBNe, ↓reduceIte, reduceIte] at h; obtain ⟨rfl, rfl, rfl⟩ := h; refine Zab ?_
        refine Zcm rfl rfl rfl rfl ?_
        dsimp only [noGd]
        have hYt := hY t (Zb4 r) ht (by show ix t < _; omega) (by
          dsimp only
          rw [hit, hk2]
          exact ⟨L, r, rfl, hE, hB⟩)
        dsimp only at hYt
        rw [hit, hk2] at hYt
        refine awpL_yield [0, 1] hYt rfl rfl rfl rfl rfl rfl rfl rfl ?_ ?_
        · simp only [rinR, rhoC, zE, evp, evx, ev1, evLoad, evStore, evBin, Zaa, forall_const, z38, tb, reduceAdd, reduceSub, reduceMul, reduceEqDiff, reduceLeDiff, reduceLT, Nat.reduceBEq, Nat.reduceBNe, ↓reduceIte, reduceIte]
          intro k hk
          rw [List.mem_singleton.1 hk]; rfl
        intro gm gv gr hq' m' e' l' h
        obtain ⟨b, t', hbt, hbf, hge⟩ := hq'
        simp only [GR.mk.injEq] at hge
        obtain ⟨rfl, rfl, rfl⟩ := hge
        simp only [rhoC, outR, renR, dels, zE, evp, evx, ev1, evLoad, evStore, evBin, Zaa, forall_const, z38, tb, reduceAdd, reduceSub, reduceMul, reduceEqDiff, reduceLeDiff, reduceLT, Nat.reduceBEq, Nat.reduceBNe, ↓reduceIte, reduceIte] at h
        obtain ⟨rfl, rfl, rfl⟩ := h
        refine Zab ?_
        refine Zcm rfl rfl rfl rfl ?_
        dsimp only [noGd]
        refine Zay htb hmz noSp fF rfl rfl rfl ?_; intro _ _ _ _ h; simp only [zE, evp, evx, ev1, evLoad, evStore, evBin, Zaa, forall_const, z38, tb, reduceAdd, reduceSub, reduceMul, reduceEqDiff, reduceLeDiff, reduceLT, Nat.reduceBEq, Nat.reduceBNe, ↓reduceIte, reduceIte] at h; obtain ⟨rfl, rfl, rfl, rfl⟩ := h; refine ⟨?_, Zab ?_⟩
        · first | ((with_reducible refine Ob.mk ?_); first | exact trivial | (intros; omega) | ((repeat' first | apply And.intro | (intro a; have b := a; try simp only [zH] at b)) <;> first | assumption | omega | (simp only [zH]; omega))) | skip
        refine Zb9 rfl ?_
        dsimp only [noGd]
        refine Zay htb hmz noSp fF rfl rfl rfl ?_; intro _ _ _ _ h; simp only [zE, evp, evx, ev1, evLoad, evStore, evBin, Zaa, forall_const, z38, tb, reduceAdd, reduceSub, reduceMul, reduceEqDiff, reduceLeDiff, reduceLT, Nat.reduceBEq, Nat.reduceBNe, ↓reduceIte, reduceIte] at h; obtain ⟨rfl, rfl, rfl, rfl⟩ := h; refine ⟨?_, Zab ?_⟩
        · first | ((with_reducible refine Ob.mk ?_); first | exact trivial | (intros; omega) | ((repeat' first | apply And.intro | (intro a; have b := a; try simp only [zH] at b)) <;> first | assumption | omega | (simp only [zH]; omega))) | skip
        refine Zgo ?_
        cases b with
        | true =>
          obtain ⟨hI2, hix⟩ := hbt rfl
          repeat' first
            | with_reducible first | apply Zan | apply Zaj | apply Zab | apply Zac | apply Zag | apply Zal | apply Zaf | apply Zah | apply Zam | apply Zao | apply Zak
            | ((with_reducible refine Zap ?_); refine Zai rfl ?_ ?_ <;> intro hb <;> (try simp only [zH] at hb)) | ((with_reducible refine Zax ?_); (first | refine Zad htb hmz noSp fF rfl rfl ?_ | refine Zae hmo htb hmz noSp fF rfl rfl (by kernel_rfl) ?_); intro _ _ _ _ h; simp only [zE, evp, evx, ev1, evLoad, evStore, evBin, Zaa, forall_const, z38, tb, reduceAdd, reduceSub, reduceMul, reduceEqDiff, reduceLeDiff, reduceLT, Nat.reduceBEq, Nat.reduceBNe, ↓reduceIte, reduceIte] at h; obtain ⟨rfl, rfl, rfl, rfl⟩ := h; refine ⟨?_, ?_⟩) | ((with_reducible refine Ob.mk ?_); first | exact trivial | (intros; omega) | ((repeat' first | apply And.intro | (intro a; have b := a; try simp only [zH] at b)) <;> first | assumption | omega | (simp only [zH]; omega)))
          · cases hb
          refine back ⟨i + 1, t'⟩ [] ?_ ⟨by dsimp only; omega, hI2, ?_⟩ (by dsimp only; omega)
          · refine ⟨rfl, ?_, ?_⟩ <;> simp only [zE, evp, evx, ev1, evLoad, evStore, evBin, Zaa, forall_const, z38, tb, reduceAdd, reduceSub, reduceMul, reduceEqDiff, reduceLeDiff, reduceLT, Nat.reduceBEq, Nat.reduceBNe, ↓reduceIte, reduceIte, zI]
            intro k hk
            rw [List.mem_singleton.1 hk]; rfl
          · dsimp only
            have : (kp K (i + 1)).length = (kp K i).length + 1 := by rw [hkn, List.length_append]; rfl
            have hix : ix t' = (kp K i).length + 1 := hix
            omega
        | false =>
          repeat' first
            | with_reducible first | apply Zan | apply Zaj | apply Zab | apply Zac | apply Zag | apply Zal | apply Zaf | apply Zah | apply Zam | apply Zao | apply Zak
            | ((with_reducible refine Zap ?_); refine Zai rfl ?_ ?_ <;> intro hb <;> (try simp only [zH] at hb)) | ((with_reducible refine Zax ?_); (first | refine Zad htb hmz noSp fF rfl rfl ?_ | refine Zae hmo htb hmz noSp fF rfl rfl (by kernel_rfl) ?_); intro _ _ _ _ h; simp only [zE, evp, evx, ev1, evLoad, evStore, evBin, Zaa, forall_const, z38, tb, reduceAdd, reduceSub, reduceMul, reduceEqDiff, reduceLeDiff, reduceLT, Nat.reduceBEq, Nat.reduceBNe, ↓reduceIte, reduceIte] at h; obtain ⟨rfl, rfl, rfl, rfl⟩ := h; refine ⟨?_, ?_⟩) | ((with_reducible refine Ob.mk ?_); first | exact trivial | (intros; omega) | ((repeat' first | apply And.intro | (intro a; have b := a; try simp only [zH] at b)) <;> first | assumption | omega | (simp only [zH]; omega)))
          · refine Zav rfl rfl (Zee ⟨2, resV [], [(1, some (.sem [0] (A false t')))]⟩ [] ⟨false, t', (fun h => by cases h), hbf, rfl⟩ rfl (Zcb rfl) ?_)
            simp only [grR, zE, evp, evx, ev1, evLoad, evStore, evBin, Zaa, forall_const, z38, tb, reduceAdd, reduceSub, reduceMul, reduceEqDiff, reduceLeDiff, reduceLT, Nat.reduceBEq, Nat.reduceBNe, ↓reduceIte, reduceIte]
            intro k hk
            rw [List.mem_singleton.1 hk]; rfl
          · cases hb
      | false =>
        rw [hh] at hhas
        have hkf : K.getD i false = false := by
          cases h : K.getD i false with
          | false => rfl
          | true => exact absurd (hin.2 (hbd1.1 h).2) (of_decide_eq_false hhas.symm)
        rw [if_neg (by rw [hkf]; decide)] at hkn
        refine Zfu ?_
        refine Zb9 rfl ?_
        dsimp only [noGd]
        refine Zay htb hmz noSp fF rfl rfl rfl ?_; intro _ _ _ _ h; simp only [zE, evp, evx, ev1, evLoad, evStore, evBin, Zaa, forall_const, z38, tb, reduceAdd, reduceSub, reduceMul, reduceEqDiff, reduceLeDiff, reduceLT, Nat.reduceBEq, Nat.reduceBNe, ↓reduceIte, reduceIte] at h; obtain ⟨rfl, rfl, rfl, rfl⟩ := h; refine ⟨?_, Zab ?_⟩
        · first | ((with_reducible refine Ob.mk ?_); first | exact trivial | (intros; omega) | ((repeat' first | apply And.intro | (intro a; have b := a; try simp only [zH] at b)) <;> first | assumption | omega | (simp only [zH]; omega))) | skip
        refine Zb9 rfl ?_
        dsimp only [noGd]
        refine Zay htb hmz noSp fF rfl rfl rfl ?_; intro _ _ _ _ h; simp only [zE, evp, evx, ev1, evLoad, evStore, evBin, Zaa, forall_const, z38, tb, reduceAdd, reduceSub, reduceMul, reduceEqDiff, reduceLeDiff, reduceLT, Nat.reduceBEq, Nat.reduceBNe, ↓reduceIte, reduceIte] at h; obtain ⟨rfl, rfl, rfl, rfl⟩ := h; refine ⟨?_, Zab ?_⟩
        · first | ((with_reducible refine Ob.mk ?_); first | exact trivial | (intros; omega) | ((repeat' first | apply And.intro | (intro a; have b := a; try simp only [zH] at b)) <;> first | assumption | omega | (simp only [zH]; omega))) | skip
        refine Zdh rfl rfl rfl rfl rfl ?_
        refine Zdh rfl rfl rfl rfl rfl ?_
        refine Zdh rfl rfl rfl rfl rfl ?_
        refine Zdh rfl rfl rfl rfl rfl ?_
        refine Zdh rfl rfl rfl rfl rfl ?_
        refine Zdh rfl rfl rfl rfl rfl ?_
        refine Zdh rfl rfl rfl rfl rfl ?_
        refine Zdh rfl rfl rfl rfl rfl ?_
        refine Zb9 rfl ?_
        dsimp only [noGd, putE]
        refine Zay htb hmz noSp fF rfl rfl rfl ?_; intro _ _ _ _ h; simp only [zE, evp, evx, ev1, evLoad, evStore, evBin, Zaa, forall_const, z38, tb, reduceAdd, reduceSub, reduceMul, reduceEqDiff, reduceLeDiff, reduceLT, Nat.reduceBEq, Nat.reduceBNe, ↓reduceIte, reduceIte] at h; obtain ⟨rfl, rfl, rfl, rfl⟩ := h; refine ⟨?_, Zab ?_⟩
        · first | ((with_reducible refine Ob.mk ?_); first | exact trivial | (intros; omega) | ((repeat' first | apply And.intro | (intro a; have b := a; try simp only [zH] at b)) <;> first | assumption | omega | (simp only [zH]; omega))) | skip
        refine Zgo ?_
        repeat' first
          | with_reducible first | apply Zan | apply Zaj | apply Zab | apply Zac | apply Zag | apply Zal | apply Zaf | apply Zah | apply Zam | apply Zao | apply Zak
          | ((with_reducible refine Zap ?_); refine Zai rfl ?_ ?_ <;> intro hb <;> (try simp only [zH] at hb)) | ((with_reducible refine Zax ?_); (first | refine Zad htb hmz noSp fF rfl rfl ?_ | refine Zae hmo htb hmz noSp fF rfl rfl (by kernel_rfl) ?_); intro _ _ _ _ h; simp only [zE, evp, evx, ev1, evLoad, evStore, evBin, Zaa, forall_const, z38, tb, reduceAdd, reduceSub, reduceMul, reduceEqDiff, reduceLeDiff, reduceLT, Nat.reduceBEq, Nat.reduceBNe, ↓reduceIte, reduceIte] at h; obtain ⟨rfl, rfl, rfl, rfl⟩ := h; refine ⟨?_, ?_⟩) | ((with_reducible refine Ob.mk ?_); first | exact trivial | (intros; omega) | ((repeat' first | apply And.intro | (intro a; have b := a; try simp only [zH] at b)) <;> first | assumption | omega | (simp only [zH]; omega)))
        · cases hb
        refine back ⟨i + 1, t⟩ [] ?_ ⟨by dsimp only; omega, ht, ?_⟩ (by dsimp only; omega)
        · refine ⟨rfl, ?_, ?_⟩ <;> simp only [zE, evp, evx, ev1, evLoad, evStore, evBin, Zaa, forall_const, z38, tb, reduceAdd, reduceSub, reduceMul, reduceEqDiff, reduceLeDiff, reduceLT, Nat.reduceBEq, Nat.reduceBNe, ↓reduceIte, reduceIte, zI]
          intro k hk
          rw [List.mem_singleton.1 hk]; rfl
        · dsimp only
          rw [hit, hkn]
  · have hie : i = o.length := by omega
    subst hie
    refine fin_normal rfl rfl (Zee ⟨2, resV [], [(1, some (.sem [0] (A true t)))]⟩ [] ⟨true, t, (fun _ => ⟨ht, hit⟩), (fun h => by cases h), rfl⟩ rfl (Zcb rfl) ?_)
    simp only [grR, zE, evp, evx, ev1, evLoad, evStore, evBin, Zaa, forall_const, z38, tb, reduceAdd, reduceSub, reduceMul, reduceEqDiff, reduceLeDiff, reduceLT, Nat.reduceBEq, Nat.reduceBNe, ↓reduceIte, reduceIte]
    intro k hk
    rw [List.mem_singleton.1 hk]; rfl
open Go Pl
structure HeldOK (o p : List Int) (x : List (List Int)) (pl : Int) (c : List Int) : Prop where
  n : o.length ≤ 20000
  plen : p.length = o.length
  p0 : ∀ v, v < o.length → 0 ≤ p.getD v 0
  xl : x.length = o.length
  cl : ∀ v, v < o.length → o.getD v 0 = pl → v < c.length
  row : ∀ v, v < o.length → (nxF ⟨o, p, x⟩ c pl v).length ≤ 64 ∧ ∀ j, j < (nxF ⟨o, p, x⟩ c pl v).length → 0 ≤ (nxF ⟨o, p, x⟩ c pl v).getD j 0 ∧ (nxF ⟨o, p, x⟩ c pl v).getD j 0 < (o.length : Int)
def nxY (o : List Int) (x : List (List Int)) (pl : Int) (c : List Int) : List (List Int) := (List.range o.length).map fun v => nxF ⟨o, [], x⟩ c pl v
theorem nxY_get {o : List Int} {x : List (List Int)} {pl : Int} {c : List Int} {v : Nat} (hv : v < o.length) : (nxY o x pl c).getD v [] = nxF ⟨o, [], x⟩ c pl v := by
  simp [nxY, List.getD_eq_getElem?_getD, hv]
theorem nxY_len {o : List Int} {x : List (List Int)} {pl : Int} {c : List Int} : (nxY o x pl c).length = o.length := by simp [nxY]
noncomputable def wnB (o p : List Int) (x : List (List Int)) (pl : Int) (c : List Int) : List Bool := wnX (fun a b => b ∈ nxN o x pl c a) o.length (kp (bdK o p x pl c) o.length) (kp (bdK o p x pl c) o.length).length
noncomputable def Zb3 : Spec
  | [.agg (.cons (.roI o) (.cons (.roI p) (.cons (.roII x) (.cons (.int .i64 pl) (.cons (.roI c) .nil)))))] => some ⟨HeldOK o p x pl c, .roB (wnB o p x pl c), none⟩
  | _ => none
noncomputable def spWh : Nat → Option Spec
  | 47 => some nxtS
  | 39 => some badS
  | _ => none
theorem Zbb : SpOK Try.prog spWh := by
  intro f S h
  unfold spWh at h
  split at h
  · cases h; exact next_ok
  · cases h; exact bad_ok
  · cases h
theorem bkI_in {y : List (List Int)} {t : Nat} {z : Int} : ∀ {i : Nat}, z ∈ bkI y t i ↔ ∃ v : Nat, v < i ∧ z = v ∧ (t : Int) ∈ y.getD v []
  | 0 => by
    constructor
    · intro h; cases h
    · rintro ⟨v, h, _⟩; omega
  | i + 1 => by
    show z ∈ bkI y t i ++ List.replicate _ _ ↔ _
    rw [List.mem_append, bkI_in (i := i), List.mem_replicate]
    constructor
    · rintro (⟨v, h1, h2, h3⟩ | ⟨h1, h2⟩)
      · exact ⟨v, by omega, h2, h3⟩
      · exact ⟨i, by omega, h2, List.count_pos_iff.1 (by omega)⟩
    · rintro ⟨v, h1, h2, h3⟩
      rcases Nat.lt_succ_iff_lt_or_eq.1 h1 with h4 | rfl
      · exact .inl ⟨v, h4, h2, h3⟩
      · exact .inr ⟨by have := List.count_pos_iff.2 h3; omega, h2⟩
structure WnS where
  O : List Bool
  Q : List Nat
set_option maxRecDepth 4000 in
set_option maxHeartbeats 4000000 in
theorem winh_ok : Zb2 Try.prog 30 Zb3 := by
  refine Za3 htb (fn := Try.f30) (by kernel_rfl) (by kernel_rfl) rfl (fun args r hS => ?_) (fun args r hS hob hl => ?_)
  · unfold Zb3 at hS; split at hS <;> first | (cases hS; done) | (cases hS; exact Nat.le_of_ble_eq_true rfl)
  unfold Zb3 at hS
  split at hS
  case h_2 => cases hS
  rename_i o p x pl c
  simp only [Option.some.injEq] at hS
  subst hS
  simp only [lenP, mkL, lim] at hl
  dsimp only at hob
  have hH := hob
  obtain ⟨hn, hpl, hp0, hxl, hcl, hrow⟩ := hob
  have hyl := nxY_len (o := o) (x := x) (pl := pl) (c := c)
  have hyg := fun v (hv : v < o.length) => nxY_get (o := o) (x := x) (pl := pl) (c := c) hv
  have hrl : ∀ v, v < (nxY o x pl c).length → ((nxY o x pl c).getD v []).length ≤ 64 := fun v h => by
    rw [hyl] at h; rw [hyg v h]; exact (hrow v h).1
  have hb4 : ∀ i t, i ≤ o.length → (bkI (nxY o x pl c) t i).length ≤ 64 * i := fun i t hi => bkI_len hrl i (by rw [hyl]; exact hi)
  repeat' first
    | with_reducible first | apply Zan | apply Zaj | apply Zab | apply Zac | apply Zag | apply Zal | apply Zaf | apply Zah | apply Zam | apply Zao | apply Zak
    | ((with_reducible refine Zap ?_); refine Zai rfl ?_ ?_ <;> intro hb <;> (try simp only [zH] at hb)) | ((with_reducible refine Zax ?_); (first | refine Zad htb hmz Zbb fF rfl rfl ?_ | refine Zae hmo htb hmz Zbb fF rfl rfl (by kernel_rfl) ?_); intro _ _ _ _ h; simp only [zE, evp, evx, ev1, evLoad, evStore, evBin, Zaa, forall_const, z38, tb, reduceAdd, reduceSub, reduceMul, reduceEqDiff, reduceLeDiff, reduceLT, Nat.reduceBEq, Nat.reduceBNe, ↓reduceIte, reduceIte, spWh, nxtS, badS] at h; obtain ⟨rfl, rfl, rfl, rfl⟩ := h; refine ⟨?_, ?_⟩) | ((with_reducible refine Ob.mk ?_); first | exact trivial | (intros; omega) | ((repeat' first | apply And.intro | (intro a; have b := a; try simp only [zH] at b)) <;> first | assumption | omega | (simp only [zH]; omega)))
  generalize hy : nxY o x pl c = y at *
  refine Zat (τ := Nat) (fun i => i ≤ o.length) (fun i => ⟨14, [(21, .int .i64 i), (20, .int .i64 o.length), (3, .own 7), (1, (.rop (.agg (.cons (.roI o) (.cons (.roI p) (.cons (.roII x) (.cons (.int .i64 pl) (.cons (.roI c) .nil))))))))], [(6, some (.rows ((List.range o.length).map fun t => bkI y t i))), (7, some (.box (.own 6)))], []⟩) (fun i => o.length - i) 0 [] ?_ (Nat.zero_le _) ?_
  · (refine ⟨rfl, ?_, ?_⟩ <;> simp only [zE, evp, evx, ev1, evLoad, evStore, evBin, Zaa, forall_const, z38, tb, reduceAdd, reduceSub, reduceMul, reduceEqDiff, reduceLeDiff, reduceLT, Nat.reduceBEq, Nat.reduceBNe, ↓reduceIte, reduceIte, spWh, nxtS, badS, zI])
    refine List.ext_getElem (by simp) fun j h1 h2 => ?_
    simp [bkI]
  intro i hi
  have hcl1 := hcl i
  have hrow1 := hrow i
  have hyg1 := hyg i
  repeat' first
    | with_reducible first | apply Zan | apply Zaj | apply Zab | apply Zac | apply Zag | apply Zal | apply Zaf | apply Zah | apply Zam | apply Zao | apply Zak
    | ((with_reducible refine Zap ?_); refine Zai rfl ?_ ?_ <;> intro hb <;> (try simp only [zH] at hb)) | ((with_reducible refine Zaq 6 ?_ ?_); (· exact rfl); (with_reducible refine Zaq 11 ?_ ?_); (· exact rfl); (first | refine Zad htb hmz Zbb fF rfl rfl ?_ | refine Zae hmo htb hmz Zbb fF rfl rfl (by kernel_rfl) ?_); intro _ _ _ _ h; simp only [zE, evp, evx, ev1, evLoad, evStore, evBin, Zaa, forall_const, z38, tb, reduceAdd, reduceSub, reduceMul, reduceEqDiff, reduceLeDiff, reduceLT, Nat.reduceBEq, Nat.reduceBNe, ↓reduceIte, reduceIte, spWh, nxtS, badS] at h; obtain ⟨rfl, rfl, rfl, rfl⟩ := h; refine ⟨?_, ?_⟩) | ((with_reducible refine Ob.mk ?_); first | exact trivial | (intros; omega) | ((repeat' first | apply And.intro | (intro a; have b := a; try simp only [zH] at b)) <;> first | assumption | omega | (simp only [zH]; omega)))
  · have hil : i < o.length := by omega
    obtain ⟨hr64, hrb⟩ := hrow1 hil
    have hyg1 := hyg1 hil
    rw [← Zkx (p := p)] at hyg1
    have hj0 : ∀ t, bkJ y t i (y.getD i []).length = bkI y t (i + 1) := fun t => bkJ_all
    have hjs : ∀ t j, j < (y.getD i []).length → bkJ y t i (j + 1) = if (y.getD i []).getD j 0 = (t : Int) then bkJ y t i j ++ [(i : Int)] else bkJ y t i j := fun t j h => bkJ_succ h
    have hjl : ∀ t j, (bkJ y t i j).length ≤ 64 * i + 64 := fun t j => by
      have h1 := hb4 i t hi
      have h2 : ((y.getD i []).take j).count (t : Int) ≤ ((y.getD i []).take j).length := List.count_le_length
      have h3 : ((y.getD i []).take j).length ≤ (y.getD i []).length := by rw [List.length_take]; omega
      have h4 := hrl i (by omega)
      simp only [bkJ, List.length_append, List.length_replicate]; omega
    rw [hyg1] at hj0 hjs
    clear hrow1 hyg hrow hp0 hyg1 hrl hcl
    generalize nxF ⟨o, p, x⟩ c pl i = rw at *
    refine Zat (τ := Nat) (fun j => j ≤ rw.length) (fun j => ⟨14, [(28, .int .i64 j), (27, .int .i64 rw.length), (26, .roI rw), (4, .int .i64 i), (21, .int .i64 i), (20, .int .i64 o.length), (3, .own 7), (1, (.rop (.agg (.cons (.roI o) (.cons (.roI p) (.cons (.roII x) (.cons (.int .i64 pl) (.cons (.roI c) .nil))))))))], [(6, some (.rows ((List.range o.length).map fun t => bkJ y t i j))), (7, some (.box (.own 6)))], []⟩) (fun j => rw.length - j) 0 [] ?_ (Nat.zero_le _) ?_
    · (refine ⟨rfl, ?_, ?_⟩ <;> simp only [zE, evp, evx, ev1, evLoad, evStore, evBin, Zaa, forall_const, z38, tb, reduceAdd, reduceSub, reduceMul, reduceEqDiff, reduceLeDiff, reduceLT, Nat.reduceBEq, Nat.reduceBNe, ↓reduceIte, reduceIte, spWh, nxtS, badS, zI])
      simp only [bkJ_zero]
    intro j hj
    have hrb := hrb j
    have hget : ∀ t, t < o.length → ((List.range o.length).map fun t => bkJ y t i j).getD t [] = bkJ y t i j := fun t ht => by simp [List.getD_eq_getElem?_getD, ht]
    have hlen : ((List.range o.length).map fun t => bkJ y t i j).length = o.length := by simp
    repeat' first
      | with_reducible first | apply Zan | apply Zaj | apply Zab | apply Zac | apply Zag | apply Zal | apply Zaf | apply Zah | apply Zam | apply Zao | apply Zak
      | ((with_reducible refine Zap ?_); refine Zai rfl ?_ ?_ <;> intro hb <;> (try simp only [zH] at hb)) | ((with_reducible refine Zaq 8 ?_ ?_); (· exact rfl); (with_reducible refine Zaq 10 ?_ ?_); (· exact rfl); (first | refine Zad htb hmz Zbb fF rfl rfl ?_ | refine Zae hmo htb hmz Zbb fF rfl rfl (by kernel_rfl) ?_); intro _ _ _ _ h; simp only [zE, evp, evx, ev1, evLoad, evStore, evBin, Zaa, forall_const, z38, tb, reduceAdd, reduceSub, reduceMul, reduceEqDiff, reduceLeDiff, reduceLT, Nat.reduceBEq, Nat.reduceBNe, ↓reduceIte, reduceIte, spWh, nxtS, badS] at h; obtain ⟨rfl, rfl, rfl, rfl⟩ := h; refine ⟨?_, ?_⟩) | ((with_reducible refine Ob.mk ?_); first | exact trivial | (intros; omega) | ((repeat' first | apply And.intro | (intro a; have b := a; try simp only [zH] at b)) <;> first | assumption | omega | (simp only [zH]; omega)))
    · have hjr : j < rw.length := by omega
      obtain ⟨c1, c2⟩ := hrb hjr
      have h1 := hget (rw.getD j 0).toNat (by omega)
      have h2 := hjl (rw.getD j 0).toNat j
      have hjs1 := fun t => hjs t j hjr
      generalize rw.getD j 0 = w at *
      repeat' first
        | with_reducible first | apply Zan | apply Zaj | apply Zab | apply Zac | apply Zag | apply Zal | apply Zaf | apply Zah | apply Zam | apply Zao | apply Zak
        | ((with_reducible refine Zap ?_); refine Zai rfl ?_ ?_ <;> intro hb <;> (try simp only [zH] at hb)) | ((with_reducible refine Zax ?_); (first | refine Zad htb hmz Zbb fF rfl rfl ?_ | refine Zae hmo htb hmz Zbb fF rfl rfl (by kernel_rfl) ?_); intro _ _ _ _ h; simp only [zE, evp, evx, ev1, evLoad, evStore, evBin, Zaa, forall_const, z38, tb, reduceAdd, reduceSub, reduceMul, reduceEqDiff, reduceLeDiff, reduceLT, Nat.reduceBEq, Nat.reduceBNe, ↓reduceIte, reduceIte, spWh, nxtS, badS] at h; obtain ⟨rfl, rfl, rfl, rfl⟩ := h; refine ⟨?_, ?_⟩) | ((with_reducible refine Ob.mk ?_); first | exact trivial | (intros; omega) | ((repeat' first | apply And.intro | (intro a; have b := a; try simp only [zH] at b)) <;> first | assumption | omega | (simp only [zH]; omega)))
      · rw [h1, hlen]
        exact Ob.mk ⟨⟨⟨⟨⟨by omega, by omega⟩, by omega⟩, by omega⟩, by omega, by omega⟩, by omega⟩
      refine back (j + 1) [] ?_ (by omega) (by omega)
      (refine ⟨rfl, ?_, ?_⟩ <;> simp only [zE, evp, evx, ev1, evLoad, evStore, evBin, Zaa, forall_const, z38, tb, reduceAdd, reduceSub, reduceMul, reduceEqDiff, reduceLeDiff, reduceLT, Nat.reduceBEq, Nat.reduceBNe, ↓reduceIte, reduceIte, spWh, nxtS, badS, zI])
      refine map_set (fun ht => ?_) fun s hs => ?_
      · rw [hjs1, if_pos (by omega), hget _ ht]
      · rw [hjs1, if_neg (by omega)]
    have hje : j = rw.length := by omega
    subst hje
    repeat' first
      | with_reducible first | apply Zan | apply Zaj | apply Zab | apply Zac | apply Zag | apply Zal | apply Zaf | apply Zah | apply Zam | apply Zao | apply Zak
      | ((with_reducible refine Zap ?_); refine Zai rfl ?_ ?_ <;> intro hb <;> (try simp only [zH] at hb)) | ((with_reducible refine Zax ?_); (first | refine Zad htb hmz Zbb fF rfl rfl ?_ | refine Zae hmo htb hmz Zbb fF rfl rfl (by kernel_rfl) ?_); intro _ _ _ _ h; simp only [zE, evp, evx, ev1, evLoad, evStore, evBin, Zaa, forall_const, z38, tb, reduceAdd, reduceSub, reduceMul, reduceEqDiff, reduceLeDiff, reduceLT, Nat.reduceBEq, Nat.reduceBNe, ↓reduceIte, reduceIte, spWh, nxtS, badS] at h; obtain ⟨rfl, rfl, rfl, rfl⟩ := h; refine ⟨?_, ?_⟩) | ((with_reducible refine Ob.mk ?_); first | exact trivial | (intros; omega) | ((repeat' first | apply And.intro | (intro a; have b := a; try simp only [zH] at b)) <;> first | assumption | omega | (simp only [zH]; omega)))
    refine back (i + 1) [] ?_ (by omega) (by omega)
    (refine ⟨rfl, ?_, ?_⟩ <;> simp only [zE, evp, evx, ev1, evLoad, evStore, evBin, Zaa, forall_const, z38, tb, reduceAdd, reduceSub, reduceMul, reduceEqDiff, reduceLeDiff, reduceLT, Nat.reduceBEq, Nat.reduceBNe, ↓reduceIte, reduceIte, spWh, nxtS, badS, zI])
    simp only [hj0]
  have hie : i = o.length := by omega
  subst hie
  clear hcl1 hrow1 hyg1
  have hBl : ((List.range o.length).map fun t => bkI y t o.length).length = o.length := by simp
  have hBg : ∀ t, t < o.length → ((List.range o.length).map fun t => bkI y t o.length).getD t [] = bkI y t o.length := fun t ht => by simp [List.getD_eq_getElem?_getD, ht]
  generalize (List.range o.length).map (fun t => bkI y t o.length) = B at *
  refine Zbi 6 (.roII B) (by simp only [Zar, Zaw, fzE, fzA, fzR, fzB, set1, nbeq, reduceEqDiff, decide_true, decide_false, ↓reduceIte, reduceIte, cond_true, cond_false, List.take_length, Option.some.injEq]; rfl) (by first | exact rfl | (refine ⟨?_, rfl⟩; first | rfl | (intros; rfl))) (by simp only [Zar, Zaw, fzE, fzA, fzR, fzB, set1, nbeq, reduceEqDiff, decide_true, decide_false, ↓reduceIte, reduceIte, cond_true, cond_false, List.take_length, Option.some.injEq]; rfl) (by simp only [Zar, Zaw, fzE, fzA, fzR, fzB, set1, nbeq, reduceEqDiff, decide_true, decide_false, ↓reduceIte, reduceIte, cond_true, cond_false, List.take_length, Option.some.injEq]; rfl) ?_
  refine Zbi 7 (.rop (.roII B)) (by simp only [Zar, Zaw, fzE, fzA, fzR, fzB, set1, nbeq, reduceEqDiff, decide_true, decide_false, ↓reduceIte, reduceIte, cond_true, cond_false, List.take_length, Option.some.injEq]; rfl) (by first | exact rfl | (refine ⟨?_, rfl⟩; first | rfl | (intros; rfl))) (by simp only [Zar, Zaw, fzE, fzA, fzR, fzB, set1, nbeq, reduceEqDiff, decide_true, decide_false, ↓reduceIte, reduceIte, cond_true, cond_false, List.take_length, Option.some.injEq]; rfl) (by simp only [Zar, Zaw, fzE, fzA, fzR, fzB, set1, nbeq, reduceEqDiff, decide_true, decide_false, ↓reduceIte, reduceIte, cond_true, cond_false, List.take_length, Option.some.injEq]; rfl) ?_
  repeat' first
    | with_reducible first | apply Zan | apply Zaj | apply Zab | apply Zac | apply Zag | apply Zal | apply Zaf | apply Zah | apply Zam | apply Zao | apply Zak
    | ((with_reducible refine Zap ?_); refine Zai rfl ?_ ?_ <;> intro hb <;> (try simp only [zH] at hb)) | ((with_reducible refine Zax ?_); (first | refine Zad htb hmz Zbb fF rfl rfl ?_ | refine Zae hmo htb hmz Zbb fF rfl rfl (by kernel_rfl) ?_); intro _ _ _ _ h; simp only [zE, evp, evx, ev1, evLoad, evStore, evBin, Zaa, forall_const, z38, tb, reduceAdd, reduceSub, reduceMul, reduceEqDiff, reduceLeDiff, reduceLT, Nat.reduceBEq, Nat.reduceBNe, ↓reduceIte, reduceIte, spWh, nxtS, badS] at h; obtain ⟨rfl, rfl, rfl, rfl⟩ := h; refine ⟨?_, ?_⟩) | ((with_reducible refine Ob.mk ?_); first | exact trivial | (intros; omega) | ((repeat' first | apply And.intro | (intro a; have b := a; try simp only [zH] at b)) <;> first | assumption | omega | (simp only [zH]; omega)))
  have hz : List.replicate o.length false = mix (fun _ => true) (fun _ => false) o.length 0 := List.ext_getElem (by simp [mix]) fun j h1 h2 => by simp [mix]
  refine Zat (τ := Nat) (fun i => i ≤ o.length) (fun i => ⟨25, [(51, .int .i64 i), (50, .int .i64 o.length), (49, .own 19), (7, .own 20), (3, .rop (.roII B)), (1, (.rop (.agg (.cons (.roI o) (.cons (.roI p) (.cons (.roII x) (.cons (.int .i64 pl) (.cons (.roI c) .nil))))))))], [(19, some (.bools (mix (fun _ => true) (fun _ => false) o.length i))), (20, some (.box (.own 19)))], []⟩) (fun i => o.length - i) 0 [] ?_ (Nat.zero_le _) ?_
  · (refine ⟨rfl, ?_, ?_⟩ <;> simp only [zE, evp, evx, ev1, evLoad, evStore, evBin, Zaa, forall_const, z38, tb, reduceAdd, reduceSub, reduceMul, reduceEqDiff, reduceLeDiff, reduceLT, Nat.reduceBEq, Nat.reduceBNe, ↓reduceIte, reduceIte, spWh, nxtS, badS, zI])
    · rw [List.length_replicate]
    · exact hz
  intro i hi
  have hm1 : (mix (fun _ => true) (fun _ => false) o.length i).length = o.length := Zc5
  have hms := Zcj (f := fun _ => true) (h := fun _ => false) (n := o.length) (i := i)
  clear hz
  repeat' first
    | with_reducible first | apply Zan | apply Zaj | apply Zab | apply Zac | apply Zag | apply Zal | apply Zaf | apply Zah | apply Zam | apply Zao | apply Zak
    | ((with_reducible refine Zap ?_); refine Zai rfl ?_ ?_ <;> intro hb <;> (try simp only [zH] at hb)) | ((with_reducible refine Zaq 15 ?_ ?_); (· exact rfl); (with_reducible refine Zaq 17 ?_ ?_); (· exact rfl); (first | refine Zad htb hmz Zbb fF rfl rfl ?_ | refine Zae hmo htb hmz Zbb fF rfl rfl (by kernel_rfl) ?_); intro _ _ _ _ h; simp only [zE, evp, evx, ev1, evLoad, evStore, evBin, Zaa, forall_const, z38, tb, reduceAdd, reduceSub, reduceMul, reduceEqDiff, reduceLeDiff, reduceLT, Nat.reduceBEq, Nat.reduceBNe, ↓reduceIte, reduceIte, spWh, nxtS, badS] at h; obtain ⟨rfl, rfl, rfl, rfl⟩ := h; refine ⟨?_, ?_⟩) | ((with_reducible refine Ob.mk ?_); first | exact trivial | (intros; omega) | ((repeat' first | apply And.intro | (intro a; have b := a; try simp only [zH] at b)) <;> first | assumption | omega | (simp only [zH]; omega)))
  · repeat' first
      | with_reducible first | apply Zan | apply Zaj | apply Zab | apply Zac | apply Zag | apply Zal | apply Zaf | apply Zah | apply Zam | apply Zao | apply Zak
      | ((with_reducible refine Zap ?_); refine Zai rfl ?_ ?_ <;> intro hb <;> (try simp only [zH] at hb)) | ((with_reducible refine Zax ?_); (first | refine Zad htb hmz Zbb fF rfl rfl ?_ | refine Zae hmo htb hmz Zbb fF rfl rfl (by kernel_rfl) ?_); intro _ _ _ _ h; simp only [zE, evp, evx, ev1, evLoad, evStore, evBin, Zaa, forall_const, z38, tb, reduceAdd, reduceSub, reduceMul, reduceEqDiff, reduceLeDiff, reduceLT, Nat.reduceBEq, Nat.reduceBNe, ↓reduceIte, reduceIte, spWh, nxtS, badS] at h; obtain ⟨rfl, rfl, rfl, rfl⟩ := h; refine ⟨?_, ?_⟩) | ((with_reducible refine Ob.mk ?_); first | exact trivial | (intros; omega) | ((repeat' first | apply And.intro | (intro a; have b := a; try simp only [zH] at b)) <;> first | assumption | omega | (simp only [zH]; omega)))
    refine back (i + 1) [] ?_ (by omega) (by omega)
    (refine ⟨rfl, ?_, ?_⟩ <;> simp only [zE, evp, evx, ev1, evLoad, evStore, evBin, Zaa, forall_const, z38, tb, reduceAdd, reduceSub, reduceMul, reduceEqDiff, reduceLeDiff, reduceLT, Nat.reduceBEq, Nat.reduceBNe, ↓reduceIte, reduceIte, spWh, nxtS, badS, zI])
    exact hms
  have hie : i = o.length := by omega
  subst hie
  rw [Zck]
  have hw0 : (List.range o.length).map (fun _ => true) = wnX (fun a b => b ∈ nxN o x pl c a) o.length (kp (bdK o p x pl c) o.length) 0 := by
    rw [wnX_zero]
    exact List.ext_getElem (by simp) fun j h1 h2 => by simp
  rw [hw0]
  clear hw0 hms hm1
  repeat' first
    | with_reducible first | apply Zan | apply Zaj | apply Zab | apply Zac | apply Zag | apply Zal | apply Zaf | apply Zah | apply Zam | apply Zao | apply Zak
    | ((with_reducible refine Zap ?_); refine Zai rfl ?_ ?_ <;> intro hb <;> (try simp only [zH] at hb)) | ((with_reducible refine Zax ?_); (first | refine Zad htb hmz Zbb fF rfl rfl ?_ | refine Zae hmo htb hmz Zbb fF rfl rfl (by kernel_rfl) ?_); intro _ _ _ _ h; simp only [zE, evp, evx, ev1, evLoad, evStore, evBin, Zaa, forall_const, z38, tb, reduceAdd, reduceSub, reduceMul, reduceEqDiff, reduceLeDiff, reduceLT, Nat.reduceBEq, Nat.reduceBNe, ↓reduceIte, reduceIte, spWh, nxtS, badS] at h; obtain ⟨rfl, rfl, rfl, rfl⟩ := h; refine ⟨?_, ?_⟩) | ((with_reducible refine Ob.mk ?_); first | exact trivial | (intros; omega) | ((repeat' first | apply And.intro | (intro a; have b := a; try simp only [zH] at b)) <;> first | assumption | omega | (simp only [zH]; omega)))
  have hit := fun (ix : Nat → Nat) (I X : Nat → Prop) hI => bad1_iter (o := o) (p := p) (c := c) (x := x) (pl := pl) hn hpl hp0 hxl hcl hrow I X ix hI
  obtain ⟨E, hE⟩ : ∃ E : Nat → Nat → Prop, E = fun a b => b ∈ nxN o x pl c a := ⟨_, rfl⟩
  have hEn : ∀ u t, u < o.length → E u t → t < o.length := by
    intro u t hu ht
    rw [hE] at ht
    obtain ⟨z, hz, rfl⟩ := List.mem_map.1 ht
    obtain ⟨j, hj, rfl⟩ := Zc0 hz
    have := (hrow u hu).2 j hj
    rw [Zkx] at this
    omega
  have hBE : ∀ w, w < o.length → ∀ t : Nat, t ∈ (B.getD w []).map Int.toNat ↔ t < o.length ∧ E t w := by
    intro w hw t
    rw [hBg w hw, List.mem_map, hE]
    constructor
    · rintro ⟨z, hz, rfl⟩
      obtain ⟨v, h1, rfl, h3⟩ := bkI_in.1 hz
      rw [hyg v h1] at h3
      exact ⟨by omega, List.mem_map.2 ⟨_, h3, Int.toNat_natCast _⟩⟩
    · rintro ⟨h1, h2⟩
      obtain ⟨z, h3, h4⟩ := List.mem_map.1 h2
      have h5 : 0 ≤ z := by
        obtain ⟨j, hj, rfl⟩ := Zc0 h3
        have := (hrow t h1).2 j hj
        rw [Zkx] at this
        exact this.1
      refine ⟨t, bkI_in.2 ⟨t, h1, rfl, ?_⟩, Int.toNat_natCast _⟩
      rw [hyg t h1]
      have : (w : Int) = z := by omega
      rw [this]; exact h3
  have hBn : ∀ w, w < o.length → (B.getD w []).length ≤ 64 * o.length ∧ Zb4 ((B.getD w []).map Int.toNat) = B.getD w [] := by
    intro w hw
    rw [hBg w hw]
    refine ⟨hb4 _ _ (Nat.le_refl _), ?_⟩
    unfold Zb4
    rw [List.map_map]
    refine (List.map_congr_left fun z hz => ?_).trans (List.map_id _)
    obtain ⟨v, h1, rfl, h3⟩ := bkI_in.1 hz
    rfl
  have hwE : wnB o p x pl c = wnX E o.length (kp (bdK o p x pl c) o.length) (kp (bdK o p x pl c) o.length).length := by rw [hE]; rfl
  rw [hwE, ← hE]
  have hKb : ∀ i, i < (kp (bdK o p x pl c) o.length).length → (kp (bdK o p x pl c) o.length).getD i 0 < o.length := fun i h => (kp_at h).1
  have hXl := fun i => Zgp (E := E) (n := o.length) (B := kp (bdK o p x pl c) o.length) (i := i)
  have hXc := fun i => wnX_bc (E := E) (n := o.length) hEn (B := kp (bdK o p x pl c) o.length) (i := i)
  have hXn := fun i O => wnX_next (E := E) (n := o.length) (B := kp (bdK o p x pl c) o.length) (i := i) (O := O)
  generalize kp (bdK o p x pl c) o.length = KL at *
  refine Zje ⟨28, [(59, .fn 52 (.cons (.rop (.agg (.cons (.roI o) (.cons (.roI p) (.cons (.roII x) (.cons (.int .i64 pl) (.cons (.roI c) .nil))))))) .nil)), (7, .own 20), (3, .rop (.roII B))], [(19, some (.bools (wnX E o.length KL 0))), (20, some (.box (.own 19)))], []⟩ [] ?_ ?_
  · (refine ⟨rfl, ?_, ?_⟩ <;> simp only [zE, evp, evx, ev1, evLoad, evStore, evBin, Zaa, forall_const, z38, tb, reduceAdd, reduceSub, reduceMul, reduceEqDiff, reduceLeDiff, reduceLT, Nat.reduceBEq, Nat.reduceBNe, ↓reduceIte, reduceIte, spWh, nxtS, badS, zI])
  refine awp_rangeU (m := 28) (M := 28) (fun i => i ≤ KL.length) (fun _ : Nat => False) (fun i => ((KL.getD i 0 : Nat) : Int)) (fun i li => bdW o p x pl c (KL.getD i 0) li) (fun i => i < KL.length) (fun i i' => i' = i + 1) (fun i => i = 0) (fun i => i = KL.length) .ret (fun i => [(19, some (.bools (wnX E o.length KL i))), (20, some (.box (.own 19)))]) [] 0 (hit id _ _ fun t h => h) (Nat.zero_le _) rfl rfl rfl rfl rfl rfl rfl rfl (fun k hk => by cases hk) (fun t k _ _ hk => Zj4 (M := 28) (l := [(19, some (.bools (wnX E o.length KL t))), (20, some (.box (.own 19)))]) ⟨⟨rfl, trivial⟩, ⟨rfl, rfl⟩, trivial⟩ k _ hk) ?_ ?_ ?_
  · intro lp i li hi hg hL
    have hXl1 := hXl i
    have hXc1 := hXc i
    have hXn1 := hXn i
    have hbn := hKb i hg
    clear hXl hXc hXn hKb hL
    generalize KL.getD i 0 = b at *
    generalize hO0 : wnX E o.length KL i = O0 at *
    first | (refine Zad htb hmz Zbb fF rfl rfl ?_; intro _ _ _ _ h; simp only [zE, evp, evx, ev1, evLoad, evStore, evBin, Zaa, forall_const, z38, tb, reduceAdd, reduceSub, reduceMul, reduceEqDiff, reduceLeDiff, reduceLT, Nat.reduceBEq, Nat.reduceBNe, ↓reduceIte, reduceIte, spWh, nxtS, badS] at h; obtain ⟨rfl, rfl, rfl, rfl⟩ := h; refine ⟨?_, ?_⟩)
          | (refine Zae hmo htb hmz Zbb fF rfl rfl (by kernel_rfl) ?_; intro _ _ _ _ h; simp only [zE, evp, evx, ev1, evLoad, evStore, evBin, Zaa, forall_const, z38, tb, reduceAdd, reduceSub, reduceMul, reduceEqDiff, reduceLeDiff, reduceLT, Nat.reduceBEq, Nat.reduceBNe, ↓reduceIte, reduceIte, spWh, nxtS, badS] at h; obtain ⟨rfl, rfl, rfl, rfl⟩ := h; refine ⟨?_, ?_⟩)
    · first | ((with_reducible refine Ob.mk ?_); first | exact trivial | (intros; omega) | ((repeat' first | apply And.intro | (intro a; have b := a; try simp only [zH] at b)) <;> first | assumption | omega | (simp only [zH]; omega))) | skip
    refine ⟨rfl, ?_⟩
    repeat' first
      | with_reducible first | apply Zan | apply Zaj | apply Zab | apply Zac | apply Zag | apply Zal | apply Zaf | apply Zah | apply Zam | apply Zao | apply Zak
      | ((with_reducible refine Zap ?_); refine Zai rfl ?_ ?_ <;> intro hb <;> (try simp only [zH] at hb)) | ((with_reducible refine Zaq 19 ?_ ?_); (· exact rfl); (first | refine Zad htb hmz Zbb fF rfl rfl ?_ | refine Zae hmo htb hmz Zbb fF rfl rfl (by kernel_rfl) ?_); intro _ _ _ _ h; simp only [zE, evp, evx, ev1, evLoad, evStore, evBin, Zaa, forall_const, z38, tb, reduceAdd, reduceSub, reduceMul, reduceEqDiff, reduceLeDiff, reduceLT, Nat.reduceBEq, Nat.reduceBNe, ↓reduceIte, reduceIte, spWh, nxtS, badS] at h; obtain ⟨rfl, rfl, rfl, rfl⟩ := h; refine ⟨?_, ?_⟩) | ((with_reducible refine Ob.mk ?_); first | exact trivial | (intros; omega) | ((repeat' first | apply And.intro | (intro a; have b := a; try simp only [zH] at b)) <;> first | assumption | omega | (simp only [zH]; omega)))
    (refine Zad htb hmz Zbb (fun i => Nat.beq i 1) rfl rfl ?_; intro _ _ _ _ h; simp only [zE, evp, evx, ev1, evLoad, evStore, evBin, Zaa, forall_const, z38, tb, reduceAdd, reduceSub, reduceMul, reduceEqDiff, reduceLeDiff, reduceLT, Nat.reduceBEq, Nat.reduceBNe, ↓reduceIte, reduceIte, spWh, nxtS, badS] at h; obtain ⟨rfl, rfl, rfl, rfl⟩ := h; refine ⟨?_, ?_⟩)
    · first | ((with_reducible refine Ob.mk ?_); first | exact trivial | (intros; omega) | ((repeat' first | apply And.intro | (intro a; have b := a; try simp only [zH] at b)) <;> first | assumption | omega | (simp only [zH]; omega))) | skip
    refine Zab ?_
    repeat' first
      | with_reducible first | apply Zan | apply Zaj | apply Zab | apply Zac | apply Zag | apply Zal | apply Zaf | apply Zah | apply Zam | apply Zao | apply Zak
      | ((with_reducible refine Zap ?_); refine Zai rfl ?_ ?_ <;> intro hb <;> (try simp only [zH] at hb)) | ((with_reducible refine Zax ?_); (first | refine Zad htb hmz Zbb fF rfl rfl ?_ | refine Zae hmo htb hmz Zbb fF rfl rfl (by kernel_rfl) ?_); intro _ _ _ _ h; simp only [zE, evp, evx, ev1, evLoad, evStore, evBin, Zaa, forall_const, z38, tb, reduceAdd, reduceSub, reduceMul, reduceEqDiff, reduceLeDiff, reduceLT, Nat.reduceBEq, Nat.reduceBNe, ↓reduceIte, reduceIte, spWh, nxtS, badS] at h; obtain ⟨rfl, rfl, rfl, rfl⟩ := h; refine ⟨?_, ?_⟩) | ((with_reducible refine Ob.mk ?_); first | exact trivial | (intros; omega) | ((repeat' first | apply And.intro | (intro a; have b := a; try simp only [zH] at b)) <;> first | assumption | omega | (simp only [zH]; omega)))
    refine Zat (τ := WnS) (fun s => WQ E o.length b O0 s.O s.Q) (fun s => ⟨33, [(10, .own 30), (7, .own 20), (3, .rop (.roII B))], [(30, some (.ints (Zb4 s.Q))), (19, some (.bools s.O)), (20, some (.box (.own 19)))], []⟩) (fun s => ctT s.O * (64 * o.length + 1) + s.Q.length) ⟨O0, [b]⟩ [] ?_ (WQ_first hXl1 hbn hXc1) ?_
    · (refine ⟨rfl, ?_, ?_⟩ <;> simp only [zE, evp, evx, ev1, evLoad, evStore, evBin, Zaa, forall_const, z38, tb, reduceAdd, reduceSub, reduceMul, reduceEqDiff, reduceLeDiff, reduceLT, Nat.reduceBEq, Nat.reduceBNe, ↓reduceIte, reduceIte, spWh, nxtS, badS, zI])
      rfl
    rintro ⟨O, Q⟩ hW
    dsimp only at hW ⊢
    have hOl := hW.len
    have hbd := hW.bd
    have hcl2 : (Zb4 Q).length = Q.length := List.length_map ..
    have hnn : o.length * (64 * o.length) ≤ 20000 * (64 * 20000) := Nat.mul_le_mul (by omega) (by omega)
    repeat' first
      | with_reducible first | apply Zan | apply Zaj | apply Zab | apply Zac | apply Zag | apply Zal | apply Zaf | apply Zah | apply Zam | apply Zao | apply Zak
      | ((with_reducible refine Zap ?_); refine Zai rfl ?_ ?_ <;> intro hb <;> (try simp only [zH] at hb)) | ((with_reducible refine Zaq 21 ?_ ?_); (· exact rfl); (with_reducible refine Zaq 26 ?_ ?_); (· exact rfl); (first | refine Zad htb hmz Zbb fF rfl rfl ?_ | refine Zae hmo htb hmz Zbb fF rfl rfl (by kernel_rfl) ?_); intro _ _ _ _ h; simp only [zE, evp, evx, ev1, evLoad, evStore, evBin, Zaa, forall_const, z38, tb, reduceAdd, reduceSub, reduceMul, reduceEqDiff, reduceLeDiff, reduceLT, Nat.reduceBEq, Nat.reduceBNe, ↓reduceIte, reduceIte, spWh, nxtS, badS] at h; obtain ⟨rfl, rfl, rfl, rfl⟩ := h; refine ⟨?_, ?_⟩) | ((with_reducible refine Ob.mk ?_); first | exact trivial | (intros; omega) | ((repeat' first | apply And.intro | (intro a; have b := a; try simp only [zH] at b)) <;> first | assumption | omega | (simp only [zH]; omega)))
    · cases Q with
      | nil => rw [hcl2] at hb; exact absurd hb (by decide)
      | cons w Q =>
        have hwn := (hW.q w List.mem_cons_self).1
        have hc : Zb4 (w :: Q) = (w : Int) :: Zb4 Q := rfl
        have hcq : (Zb4 Q).length = Q.length := List.length_map ..
        obtain ⟨hBl1, hBc1⟩ := hBn w hwn
        have hBE1 := hBE w hwn
        rw [List.length_cons] at hbd
        rw [hc] at hcl2 ⊢
        repeat' first
          | with_reducible first | apply Zan | apply Zaj | apply Zab | apply Zac | apply Zag | apply Zal | apply Zaf | apply Zah | apply Zam | apply Zao | apply Zak
          | ((with_reducible refine Zap ?_); refine Zai rfl ?_ ?_ <;> intro hb <;> (try simp only [zH] at hb)) | ((with_reducible refine Zaq 23 ?_ ?_); (· exact rfl); (first | refine Zad htb hmz Zbb fF rfl rfl ?_ | refine Zae hmo htb hmz Zbb fF rfl rfl (by kernel_rfl) ?_); intro _ _ _ _ h; simp only [zE, evp, evx, ev1, evLoad, evStore, evBin, Zaa, forall_const, z38, tb, reduceAdd, reduceSub, reduceMul, reduceEqDiff, reduceLeDiff, reduceLT, Nat.reduceBEq, Nat.reduceBNe, ↓reduceIte, reduceIte, spWh, nxtS, badS] at h; obtain ⟨rfl, rfl, rfl, rfl⟩ := h; refine ⟨?_, ?_⟩) | ((with_reducible refine Ob.mk ?_); first | exact trivial | (intros; omega) | ((repeat' first | apply And.intro | (intro a; have b := a; try simp only [zH] at b)) <;> first | assumption | omega | (simp only [zH]; omega)))
        simp only [List.getD_cons_zero, List.drop_succ_cons, List.drop_zero]
        repeat' first
          | with_reducible first | apply Zan | apply Zaj | apply Zab | apply Zac | apply Zag | apply Zal | apply Zaf | apply Zah | apply Zam | apply Zao | apply Zak
          | ((with_reducible refine Zap ?_); refine Zai rfl ?_ ?_ <;> intro hb <;> (try simp only [zH] at hb)) | ((with_reducible refine Zaq 24 ?_ ?_); (· exact rfl); (with_reducible refine Zaq 26 ?_ ?_); (· exact rfl); (first | refine Zad htb hmz Zbb fF rfl rfl ?_ | refine Zae hmo htb hmz Zbb fF rfl rfl (by kernel_rfl) ?_); intro _ _ _ _ h; simp only [zE, evp, evx, ev1, evLoad, evStore, evBin, Zaa, forall_const, z38, tb, reduceAdd, reduceSub, reduceMul, reduceEqDiff, reduceLeDiff, reduceLT, Nat.reduceBEq, Nat.reduceBNe, ↓reduceIte, reduceIte, spWh, nxtS, badS] at h; obtain ⟨rfl, rfl, rfl, rfl⟩ := h; refine ⟨?_, ?_⟩) | ((with_reducible refine Ob.mk ?_); first | exact trivial | (intros; omega) | ((repeat' first | apply And.intro | (intro a; have b := a; try simp only [zH] at b)) <;> first | assumption | omega | (simp only [zH]; omega)))
        · refine back ⟨O, Q⟩ [(30, 41)] ?_ (WQ_pop hW hb) (by dsimp only; rw [List.length_cons]; omega)
          (refine ⟨rfl, ?_, ?_⟩ <;> simp only [zE, evp, evx, ev1, evLoad, evStore, evBin, Zaa, forall_const, z38, tb, reduceAdd, reduceSub, reduceMul, reduceEqDiff, reduceLeDiff, reduceLT, Nat.reduceBEq, Nat.reduceBNe, ↓reduceIte, reduceIte, spWh, nxtS, badS, zI])
        · have hwt : O.getD w false = true := hb
          have hW2 := WQ_take hW hwt hBE1 (by rw [List.length_map]; exact hBl1)
          have hct := Zjc hwt
          have hqa : Zb4 (Q ++ (B.getD w []).map Int.toNat) = Zb4 Q ++ B.getD w [] := by
            have h0 : Zb4 (Q ++ (B.getD w []).map Int.toNat) = Zb4 Q ++ Zb4 ((B.getD w []).map Int.toNat) := List.map_append ..
            rw [h0, hBc1]
          have hal : ((B.getD w []).map Int.toNat).length = (B.getD w []).length := List.length_map ..
          clear hBc1 hBE1
          repeat' first
            | with_reducible first | apply Zan | apply Zaj | apply Zab | apply Zac | apply Zag | apply Zal | apply Zaf | apply Zah | apply Zam | apply Zao | apply Zak
            | ((with_reducible refine Zap ?_); refine Zai rfl ?_ ?_ <;> intro hb <;> (try simp only [zH] at hb)) | ((with_reducible refine Zax ?_); (first | refine Zad htb hmz Zbb fF rfl rfl ?_ | refine Zae hmo htb hmz Zbb fF rfl rfl (by kernel_rfl) ?_); intro _ _ _ _ h; simp only [zE, evp, evx, ev1, evLoad, evStore, evBin, Zaa, forall_const, z38, tb, reduceAdd, reduceSub, reduceMul, reduceEqDiff, reduceLeDiff, reduceLT, Nat.reduceBEq, Nat.reduceBNe, ↓reduceIte, reduceIte, spWh, nxtS, badS] at h; obtain ⟨rfl, rfl, rfl, rfl⟩ := h; refine ⟨?_, ?_⟩) | ((with_reducible refine Ob.mk ?_); first | exact trivial | (intros; omega) | ((repeat' first | apply And.intro | (intro a; have b := a; try simp only [zH] at b)) <;> first | assumption | omega | (simp only [zH]; omega)))
          refine back ⟨O.set w false, Q ++ (B.getD w []).map Int.toNat⟩ [(30, 57)] ?_ hW2 ?_
          · (refine ⟨rfl, ?_, ?_⟩ <;> simp only [zE, evp, evx, ev1, evLoad, evStore, evBin, Zaa, forall_const, z38, tb, reduceAdd, reduceSub, reduceMul, reduceEqDiff, reduceLeDiff, reduceLT, Nat.reduceBEq, Nat.reduceBNe, ↓reduceIte, reduceIte, spWh, nxtS, badS, zI])
            exact hqa.symm
          · dsimp only
            have hm : ctT O * (64 * o.length + 1) = ctT (O.set w false) * (64 * o.length + 1) + (64 * o.length + 1) := by rw [← hct, Nat.add_mul, Nat.one_mul]
            rw [List.length_append, List.length_cons, hm]
            omega
    have hQ0 : Q = [] := by
      cases Q with
      | nil => rfl
      | cons w Q => rw [hcl2, List.length_cons] at hb; exfalso; omega
    subst hQ0
    have hO := hXn1 O hW hEn hbn
    refine ⟨_, i + 1, [], rfl, ?_, .inl ⟨rfl, hg, rfl⟩⟩
    rw [hO]
    (refine ⟨rfl, ?_, ?_⟩ <;> simp only [zE, evp, evx, ev1, evLoad, evStore, evBin, Zaa, forall_const, z38, tb, reduceAdd, reduceSub, reduceMul, reduceEqDiff, reduceLeDiff, reduceLT, Nat.reduceBEq, Nat.reduceBNe, ↓reduceIte, reduceIte, spWh, nxtS, badS, zI])
  · intro i hi hfin
    have hfin : i = KL.length := hfin
    subst hfin
    refine Zac (Zab ?_)
    refine Zbi 19 (.roB (wnX E o.length KL KL.length)) (by simp only [Zar, Zaw, fzE, fzA, fzR, fzB, set1, nbeq, reduceEqDiff, decide_true, decide_false, ↓reduceIte, reduceIte, cond_true, cond_false, List.take_length, Option.some.injEq]; rfl) (by first | exact rfl | (refine ⟨?_, rfl⟩; first | rfl | (intros; rfl))) (by simp only [Zar, Zaw, fzE, fzA, fzR, fzB, set1, nbeq, reduceEqDiff, decide_true, decide_false, ↓reduceIte, reduceIte, cond_true, cond_false, List.take_length, Option.some.injEq]; rfl) (by simp only [Zar, Zaw, fzE, fzA, fzR, fzB, set1, nbeq, reduceEqDiff, decide_true, decide_false, ↓reduceIte, reduceIte, cond_true, cond_false, List.take_length, Option.some.injEq]; rfl) ?_
    repeat' first
      | with_reducible first | apply Zan | apply Zaj | apply Zab | apply Zac | apply Zag | apply Zal | apply Zaf | apply Zah | apply Zam | apply Zao | apply Zak
      | ((with_reducible refine Zap ?_); refine Zai rfl ?_ ?_ <;> intro hb <;> (try simp only [zH] at hb)) | ((with_reducible refine Zax ?_); (first | refine Zad htb hmz Zbb fF rfl rfl ?_ | refine Zae hmo htb hmz Zbb fF rfl rfl (by kernel_rfl) ?_); intro _ _ _ _ h; simp only [zE, evp, evx, ev1, evLoad, evStore, evBin, Zaa, forall_const, z38, tb, reduceAdd, reduceSub, reduceMul, reduceEqDiff, reduceLeDiff, reduceLT, Nat.reduceBEq, Nat.reduceBNe, ↓reduceIte, reduceIte, spWh, nxtS, badS] at h; obtain ⟨rfl, rfl, rfl, rfl⟩ := h; refine ⟨?_, ?_⟩) | ((with_reducible refine Ob.mk ?_); first | exact trivial | (intros; omega) | ((repeat' first | apply And.intro | (intro a; have b := a; try simp only [zH] at b)) <;> first | assumption | omega | (simp only [zH]; omega)))
    refine ⟨_, _, rfl, rfl, fun k hk => by rw [List.mem_singleton.1 hk]; rfl, (by show [28].Nodup; decide), Nat.zero_le _, Zas rfl ?_ rfl⟩
    rfl
  · intro t h; exact h.elim
end Go.Proofs.Ytbcghiagomkadaa.Cal
