/- Own texts of the proof, merged, in order. -/
import Derived.Test.YtbcghiagomkadaaS22
set_option linter.unusedVariables false
set_option linter.unusedSimpArgs false
namespace Go.Proofs.Ytbcghiagomkadaa.Cal
section
open Pl
def ctT (F : List Bool) : Nat := F.countP id
theorem Zha : ∀ {F : List Bool} {v : Nat}, F.getD v false = true → ctT (F.set v false) + 1 = ctT F
  | [], v, h => by cases v <;> cases h
  | b :: F, 0, h => by
    have h : b = true := h
    subst h
    simp [ctT]
  | b :: F, v + 1, h => by
    have h : F.getD v false = true := h
    have := Zha h
    simp only [ctT, List.set_cons_succ, List.countP_cons] at this ⊢
    omega
theorem Zhv {F : List Bool} : ctT F ≤ F.length := List.countP_le_length
theorem getT {F : List Bool} {v u : Nat} {b : Bool} : (F.set v b).getD u false = if u = v ∧ v < F.length then b else F.getD u false := by
  simp only [List.getD_eq_getElem?_getD, List.getElem?_set]
  by_cases h : v = u
  · subst h
    by_cases h2 : v < F.length
    · simp [h2]
    · simp [h2]
  · rw [if_neg h, if_neg (fun h2 => h h2.1.symm)]
variable {E : Nat → Nat → Prop} {n b w : Nat} {O0 O : List Bool} {Q : List Nat}
/-- Closed backwards. -/
def BC (E : Nat → Nat → Prop) (n : Nat) (O : List Bool) : Prop := ∀ u, u < n → O.getD u false = false → ∀ t, t < n → E t u → O.getD t false = false
structure WQ (E : Nat → Nat → Prop) (n b : Nat) (O0 O : List Bool) (Q : List Nat) : Prop where
  len : O.length = n
  a : ∀ u, u < n → O.getD u false = false → O0.getD u false = false ∨ Rch E u b
  q : ∀ u, u ∈ Q → u < n ∧ Rch E u b
  p : ∀ u, u < n → O.getD u false = false → ∀ t, t < n → E t u → O.getD t false = false ∨ t ∈ Q
  b : O.getD b false = false ∨ b ∈ Q
  s : ∀ u, u < n → O0.getD u false = false → O.getD u false = false
  bd : Q.length + ctT O * (64 * n) ≤ 1 + n * (64 * n)
theorem WQ_first (hO : O0.length = n) (hb : b < n) (hc : BC E n O0) : WQ E n b O0 O0 [b] := by
  refine ⟨hO, fun u _ h => .inl h, fun u hu => ?_, fun u hu h t ht he => .inl (hc u hu h t ht he), .inr (by simp), fun u _ h => h, ?_⟩
  · rw [List.mem_singleton.1 hu]; exact ⟨hb, .refl _⟩
  · have h1 : ctT O0 ≤ n := hO ▸ Zhv
    have := Nat.mul_le_mul_right (64 * n) h1
    rw [List.length_singleton]
    omega
theorem WQ_pop (h : WQ E n b O0 O (w :: Q)) (hw : O.getD w false = false) : WQ E n b O0 O Q := by
  refine ⟨h.len, h.a, fun u hu => h.q u (List.mem_cons_of_mem _ hu), fun u hu hf t ht he => ?_, ?_, h.s, ?_⟩
  · rcases h.p u hu hf t ht he with h1 | h1
    · exact .inl h1
    · rcases List.mem_cons.1 h1 with rfl | h1
      · exact .inl hw
      · exact .inr h1
  · rcases h.b with h1 | h1
    · exact .inl h1
    · rcases List.mem_cons.1 h1 with rfl | h1
      · exact .inl hw
      · exact .inr h1
  · have := h.bd
    rw [List.length_cons] at this
    omega
theorem WQ_take {A : List Nat} (h : WQ E n b O0 O (w :: Q)) (hw : O.getD w false = true) (hA : ∀ t, t ∈ A ↔ t < n ∧ E t w) (hl : A.length ≤ 64 * n) : WQ E n b O0 (O.set w false) (Q ++ A) := by
  obtain ⟨hwn, hwb⟩ := h.q w List.mem_cons_self
  have hwl : w < O.length := by rw [h.len]; exact hwn
  have hg : ∀ u, (O.set w false).getD u false = if u = w then false else O.getD u false := fun u => by
    rw [getT]
    by_cases e : u = w
    · rw [if_pos ⟨e, hwl⟩, if_pos e]
    · rw [if_neg (fun h => e h.1), if_neg e]
  refine ⟨by rw [List.length_set, h.len], fun u hu hf => ?_, fun u hu => ?_, fun u hu hf t ht he => ?_, ?_, fun u hu hf => ?_, ?_⟩
  · rw [hg] at hf
    by_cases e : u = w
    · subst e; exact .inr hwb
    · rw [if_neg e] at hf; exact h.a u hu hf
  · rcases List.mem_append.1 hu with hu | hu
    · exact h.q u (List.mem_cons_of_mem _ hu)
    · obtain ⟨h1, h2⟩ := (hA u).1 hu
      exact ⟨h1, Rch.cons h2 hwb⟩
  · rw [hg] at hf ⊢
    by_cases e : t = w
    · rw [if_pos e]; exact .inl rfl
    rw [if_neg e]
    by_cases e2 : u = w
    · subst e2
      exact .inr (List.mem_append_right _ ((hA t).2 ⟨ht, he⟩))
    · rw [if_neg e2] at hf
      rcases h.p u hu hf t ht he with h1 | h1
      · exact .inl h1
      · rcases List.mem_cons.1 h1 with h1 | h1
        · exact absurd h1 e
        · exact .inr (List.mem_append_left _ h1)
  · rw [hg]
    by_cases e : b = w
    · rw [if_pos e]; exact .inl rfl
    · rw [if_neg e]
      rcases h.b with h1 | h1
      · exact .inl h1
      · rcases List.mem_cons.1 h1 with h1 | h1
        · exact absurd h1 e
        · exact .inr (List.mem_append_left _ h1)
  · rw [hg]
    by_cases e : u = w
    · rw [if_pos e]
    · rw [if_neg e]; exact h.s u hu hf
  · have h1 := h.bd
    have h2 := Zha hw
    rw [← h2, Nat.succ_mul, List.length_cons] at h1
    rw [List.length_append]
    omega
theorem WQ_end (h : WQ E n b O0 O []) (hE : ∀ u t, u < n → E u t → t < n) (hb : b < n) (u : Nat) (hu : u < n) : O.getD u false = false ↔ O0.getD u false = false ∨ Rch E u b := by
  constructor
  · exact h.a u hu
  · rintro (h1 | h1)
    · exact h.s u hu h1
    · -- backwards from b
      have key : ∀ {s t : Nat}, Rch E s t → s < n → t < n ∧ (O.getD t false = false → O.getD s false = false) := by
        intro s t hr
        induction hr with
        | refl => exact fun hs => ⟨hs, fun h => h⟩
        | step hr e ih =>
          intro hs
          obtain ⟨i1, i2⟩ := ih hs
          have ht := hE _ _ i1 e
          refine ⟨ht, fun h2 => i2 ?_⟩
          rcases h.p _ ht h2 _ i1 e with h3 | h3
          · exact h3
          · cases h3
      have hb0 : O.getD b false = false := by
        rcases h.b with h2 | h2
        · exact h2
        · cases h2
      exact (key h1 hu).2 hb0
open Classical in
/-- What is left after the first i of a list. -/
noncomputable def wnX (E : Nat → Nat → Prop) (n : Nat) (B : List Nat) (i : Nat) : List Bool := (List.range n).map fun v => decide (¬ ∃ j, j < i ∧ Rch E v (B.getD j 0))
theorem Ze8 {B : List Nat} {i : Nat} : (wnX E n B i).length = n := by simp [wnX]
theorem Zet {B : List Nat} {i v : Nat} (hv : v < n) : (wnX E n B i).getD v false = false ↔ ∃ j, j < i ∧ Rch E v (B.getD j 0) := by
  simp [wnX, List.getD_eq_getElem?_getD, hv]
theorem wnX_zero {B : List Nat} : wnX E n B 0 = List.replicate n true := by
  refine List.ext_getElem (by simp [wnX]) fun j h1 h2 => ?_
  simp [wnX]
theorem wnX_bc (hE : ∀ u t, u < n → E u t → t < n) {B : List Nat} {i : Nat} : BC E n (wnX E n B i) := by
  intro u hu hf t ht he
  obtain ⟨j, h1, h2⟩ := (Zet hu).1 hf
  exact (Zet ht).2 ⟨j, h1, Rch.cons he h2⟩
theorem wnX_next {B : List Nat} {i : Nat} (h : WQ E n (B.getD i 0) (wnX E n B i) O []) (hE : ∀ u t, u < n → E u t → t < n) (hb : B.getD i 0 < n) : O = wnX E n B (i + 1) := by
  refine List.ext_getElem (by rw [h.len, Ze8]) fun u h1 h2 => ?_
  rw [Ze8] at h2
  have g1 : ∀ {F : List Bool} (hj : u < F.length), F[u] = F.getD u false := fun hj => by rw [List.getD_eq_getElem?_getD, List.getElem?_eq_getElem hj]; rfl
  rw [g1 h1, g1 (by rw [Ze8]; exact h2)]
  have e1 := WQ_end h hE hb u h2
  rw [Zet h2] at e1
  have e2 := Zet (E := E) (B := B) (i := i + 1) h2
  have : O.getD u false = false ↔ (wnX E n B (i + 1)).getD u false = false := by
    rw [e1, e2]
    constructor
    · rintro (⟨j, h3, h4⟩ | h3)
      · exact ⟨j, by omega, h4⟩
      · exact ⟨i, by omega, h3⟩
    · rintro ⟨j, h3, h4⟩
      rcases Nat.lt_succ_iff_lt_or_eq.1 h3 with h5 | rfl
      · exact .inl ⟨j, h5, h4⟩
      · exact .inr h4
  cases e3 : O.getD u false with
  | false => exact (this.1 e3).symm
  | true =>
    cases e4 : (wnX E n B (i + 1)).getD u false with
    | true => rfl
    | false => rw [this.2 e4] at e3; cases e3
end
end Go.Proofs.Ytbcghiagomkadaa.Cal
namespace Go.Proofs.Ytbcghiagomkadaa.Cal
section
open Pl
theorem ctT_up : ∀ {F : List Bool} {v : Nat}, v < F.length → F.getD v false = false → ctT (F.set v true) = ctT F + 1
  | [], v, h, _ => by cases h
  | b :: F, 0, _, h => by
    have h : b = false := h
    subst h
    simp [ctT]
  | b :: F, v + 1, hl, h => by
    have h : F.getD v false = false := h
    have := ctT_up (by simpa using hl) h
    simp only [ctT, List.set_cons_succ, List.countP_cons] at this ⊢
    omega
/-- The successors of the other player's positions that are its own. -/
def alR (o : List Int) (x : List (List Int)) (pl : Int) (v : Nat) : List Int := if o.getD v 0 = pl then [] else (x.getD v []).filter fun w => decide (o.getD w.toNat 0 ≠ pl)
def alY (o : List Int) (x : List (List Int)) (pl : Int) : List (List Int) := (List.range o.length).map (alR o x pl)
def alE (o : List Int) (x : List (List Int)) (pl : Int) (a b : Nat) : Prop := b ∈ (alR o x pl a).map Int.toNat
def alBs (o p : List Int) (x : List (List Int)) (pl : Int) (v : Nat) : Prop := (o.getD v 0 ≠ pl ∧ p.getD v 0 % 2 ≠ pl) ∧ Cyc (alE o x pl) (fun v => p.getD v 0) v
open Classical in
noncomputable def alLs (o p : List Int) (x : List (List Int)) (pl : Int) : List Bool := (List.range o.length).map fun v => decide (∃ u, u < o.length ∧ alBs o p x pl u ∧ Rch (alE o x pl) v u)
open Classical in
noncomputable def alO (o p : List Int) (x : List (List Int)) (pl : Int) : List Bool := (List.range o.length).map fun v => decide (alBs o p x pl v)
theorem Zhc {o : List Int} {x : List (List Int)} {pl : Int} : (alY o x pl).length = o.length := by simp [alY]
theorem Ze7 {o p : List Int} {x : List (List Int)} {pl : Int} : (alLs o p x pl).length = o.length := by simp [alLs]
theorem Zhe {o p : List Int} {x : List (List Int)} {pl : Int} : (alO o p x pl).length = o.length := by simp [alO]
theorem Zhd {o : List Int} {x : List (List Int)} {pl : Int} {v : Nat} (hv : v < o.length) : (alY o x pl).getD v [] = alR o x pl v := by simp [alY, List.getD_eq_getElem?_getD, hv]
theorem alO_iff {o p : List Int} {x : List (List Int)} {pl : Int} {v : Nat} (hv : v < o.length) : (alO o p x pl).getD v false = true ↔ alBs o p x pl v := by
  simp [alO, List.getD_eq_getElem?_getD, hv]
theorem alLs_iff {o p : List Int} {x : List (List Int)} {pl : Int} {v : Nat} (hv : v < o.length) : (alLs o p x pl).getD v false = true ↔ ∃ u, u < o.length ∧ alBs o p x pl u ∧ Rch (alE o x pl) v u := by
  simp [alLs, List.getD_eq_getElem?_getD, hv]
theorem alR_len {o : List Int} {x : List (List Int)} {pl : Int} {v : Nat} : (alR o x pl v).length ≤ (x.getD v []).length := by
  unfold alR
  split
  · exact Nat.zero_le _
  · exact List.length_filter_le ..
theorem alR_mem {o : List Int} {x : List (List Int)} {pl : Int} {v : Nat} {w : Int} : w ∈ alR o x pl v ↔ o.getD v 0 ≠ pl ∧ w ∈ x.getD v [] ∧ o.getD w.toNat 0 ≠ pl := by
  unfold alR
  split
  · rename_i h
    constructor
    · intro h2; cases h2
    · rintro ⟨h2, _⟩; exact absurd h h2
  · rename_i h
    rw [List.mem_filter, decide_eq_true_eq]
    exact ⟨fun h2 => ⟨h, h2⟩, fun h2 => h2.2⟩
structure AlI (E : Nat → Nat → Prop) (n : Nat) (Bs : Nat → Prop) (O : List Bool) : Prop where
  len : O.length = n
  base : ∀ v, v < n → Bs v → O.getD v false = true
  snd : ∀ v, O.getD v false = true → ∃ u, u < n ∧ Bs u ∧ Rch E v u
variable {E : Nat → Nat → Prop} {n : Nat} {Bs : Nat → Prop} {O O0 : List Bool}
theorem AlI_set (h : AlI E n Bs O) {v w : Nat} (he : E v w) (hw : O.getD w false = true) : AlI E n Bs (O.set v true) := by
  refine ⟨by rw [List.length_set]; exact h.len, fun u hu hb => ?_, fun u hu => ?_⟩
  · rw [getT]
    split
    · rfl
    · exact h.base u hu hb
  · rw [getT] at hu
    split at hu
    · rename_i e
      obtain ⟨z, h1, h2, h3⟩ := h.snd w hw
      rw [e.1]
      exact ⟨z, h1, h2, (Rch.one he).trans h3⟩
    · exact h.snd u hu
theorem AlI_done {o p : List Int} {x : List (List Int)} {pl : Int} (h : AlI (alE o x pl) o.length (alBs o p x pl) O) (hc : ∀ v w, v < o.length → alE o x pl v w → O.getD w false = true → O.getD v false = true) (hE : ∀ v w, v < o.length → alE o x pl v w → w < o.length) : O = alLs o p x pl := by
  refine List.ext_getElem (by rw [h.len, Ze7]) fun v h1 h2 => ?_
  rw [h.len] at h1
  have e1 : O[v]'(by rw [h.len]; exact h1) = O.getD v false := by simp [List.getD_eq_getElem?_getD, h.len, h1]
  have e2 : (alLs o p x pl)[v]'h2 = (alLs o p x pl).getD v false := by simp only [List.getD_eq_getElem?_getD, List.getElem?_eq_getElem h2, Option.getD_some]
  rw [e1, e2]
  refine Bool.eq_iff_iff.2 ?_
  rw [alLs_iff h1]
  constructor
  · exact h.snd v
  · rintro ⟨u, hu, hb, hr⟩
    have hlt : ∀ z, Rch (alE o x pl) v z → z < o.length := fun z hz => Rch.closed (C := fun a => a < o.length) (fun a b ha he => hE a b ha he) hz h1
    have : ∀ z, Rch (alE o x pl) v z → O.getD z false = true → O.getD v false = true := by
      intro z hz
      induction hz with
      | refl => exact fun h => h
      | step hz' he ih => exact fun ho => ih (hc _ _ (hlt _ hz') he ho)
    exact this u hr (h.base u hu hb)
/-- Within a pass. -/
structure AlP (D : Nat → Nat → Prop) (O0 O : List Bool) (c : Bool) : Prop where
  a : c = false → O = O0 ∧ ∀ v w, D v w → O.getD w false = true → O.getD v false = true
  b : c = true → ctT O0 < ctT O
def alD (y : List (List Int)) (i j : Nat) (v w : Nat) : Prop := (v < i ∧ (w : Int) ∈ y.getD v []) ∨ (v = i ∧ (w : Int) ∈ (y.getD i []).take j)
theorem AlP_first {y : List (List Int)} : AlP (alD y 0 0) O0 O0 false := by
  refine ⟨fun _ => ⟨rfl, ?_⟩, fun h => by cases h⟩
  rintro v w (⟨h, _⟩ | ⟨_, h⟩)
  · omega
  · rw [List.take_zero] at h; cases h
theorem AlP_skip {y : List (List Int)} {c : Bool} {i j : Nat} (h : AlP (alD y i j) O0 O c) (hj : j < (y.getD i []).length) (hw : O.getD ((y.getD i []).getD j 0).toNat false = true → O.getD i false = true) : AlP (alD y i (j + 1)) O0 O c := by
  refine ⟨fun hc => ⟨(h.a hc).1, ?_⟩, h.b⟩
  rintro v w (h1 | ⟨rfl, h1⟩) hO
  · exact (h.a hc).2 v w (.inl h1) hO
  · rw [Zf3 (d := 0) hj, List.mem_append] at h1
    rcases h1 with h1 | h1
    · exact (h.a hc).2 _ w (.inr ⟨rfl, h1⟩) hO
    · rw [List.mem_singleton] at h1
      refine hw ?_
      rw [← h1, Int.toNat_natCast]; exact hO
theorem AlP_set {D D' : Nat → Nat → Prop} {c : Bool} {v : Nat} (h : AlP D O0 O c) (hv : v < O.length) (hf : O.getD v false = false) : AlP D' O0 (O.set v true) true := by
  refine ⟨(fun h => by cases h), fun _ => ?_⟩
  rw [ctT_up hv hf]
  cases c with
  | true => exact Nat.lt_succ_of_lt (h.b rfl)
  | false => rw [(h.a rfl).1]; exact Nat.lt_succ_self _
theorem AlP_next {y : List (List Int)} {c : Bool} {i j : Nat} (h : AlP (alD y i j) O0 O c) (hj : (y.getD i []).length ≤ j) : AlP (alD y (i + 1) 0) O0 O c := by
  refine ⟨fun hc => ⟨(h.a hc).1, ?_⟩, h.b⟩
  rintro v w (⟨h1, h2⟩ | ⟨_, h2⟩) hO
  · rcases Nat.lt_succ_iff_lt_or_eq.1 h1 with h3 | rfl
    · exact (h.a hc).2 v w (.inl ⟨h3, h2⟩) hO
    · exact (h.a hc).2 _ w (.inr ⟨rfl, by rw [List.take_of_length_le hj]; exact h2⟩) hO
  · rw [List.take_zero] at h2; cases h2
end
end Go.Proofs.Ytbcghiagomkadaa.Cal
