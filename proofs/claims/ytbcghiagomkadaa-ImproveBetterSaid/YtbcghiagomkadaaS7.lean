/- Own texts, merged. -/
import Derived.Test.YtbcghiagomkadaaS6
set_option linter.unusedVariables false
set_option linter.unusedSimpArgs false
open Nat (reduceAdd reduceSub reduceMul reduceEqDiff reduceLeDiff reduceLT)
namespace Go.Proofs.Ytbcghiagomkadaa.Cal
open Go Pl
theorem Zjr : ∀ {l : List Bool} {t : Nat}, t < l.length → l.getD t false = false → (l.set t true).count false + 1 = l.count false
  | [], t, h, _ => absurd h (Nat.not_lt_zero t)
  | a :: l, 0, _, h2 => by
    have : a = false := h2
    subst this
    simp
  | a :: l, t + 1, h, h2 => by
    have := Zjr (l := l) (t := t) (by simpa using h) h2
    rw [List.set_cons_succ, List.count_cons, List.count_cons]; omega
structure FI (n : Nat) (x : List (List Int)) (ok : Nat → Prop) (s : Nat) (out : List Bool) (l : List Nat) (ex : Nat → Prop) : Prop where
  len : out.length = n
  lb : ∀ u, u ∈ l → u < n
  rc : ∀ u, u < n → out.getD u false = true → ∃ t, Ed (rws x) ok s t ∧ Rch (Ed (rws x) ok) t u
  ls : ∀ u, u ∈ l → u = s ∨ out.getD u false = true
  cl : ∀ u, u < n → (u = s ∨ out.getD u false = true) → u ∈ l ∨ ex u ∨ ∀ t, Ed (rws x) ok u t → out.getD t false = true
  ll : l.length + out.count false ≤ n + 1
structure FwS where
  out : List Bool
  l : List Nat
structure FwJ where
  out : List Bool
  l : List Nat
  r : Nat
section
variable {n : Nat} {x : List (List Int)} {ok : Nat → Prop} {s v : Nat} {out : List Bool} {l : List Nat}
theorem FI_begin (hs : s < n) : FI n x ok s (List.replicate n false) [s] fun _ => False := by
  have h0 : ∀ u, (List.replicate n false).getD u false = false := fun u => by
    rw [List.getD_eq_getElem?_getD, List.getElem?_replicate]; split <;> rfl
  refine { len := List.length_replicate, lb := fun u h => by rw [List.mem_singleton.1 h]; exact hs, rc := fun u _ h => ?_, ls := fun u h => .inl (List.mem_singleton.1 h), cl := fun u _ h => ?_, ll := by simp; omega }
  · rw [h0 u] at h; cases h
  · rcases h with h | h
    · exact .inl (List.mem_singleton.2 h)
    · rw [h0 u] at h; cases h
theorem FI_pop (H : FI n x ok s out (l ++ [v]) fun _ => False) : FI n x ok s out l (fun u => u = v) ∧ v < n ∧ (v = s ∨ out.getD v false = true) := by
  have hv : v ∈ l ++ [v] := List.mem_append_right _ List.mem_cons_self
  refine ⟨{ len := H.len, lb := fun u h => H.lb u (List.mem_append_left _ h), rc := H.rc, ls := fun u h => H.ls u (List.mem_append_left _ h), cl := fun u hu h => ?_, ll := ?_ }, H.lb v hv, H.ls v hv⟩
  · rcases H.cl u hu h with h | h | h
    · rcases List.mem_append.1 h with h | h
      · exact .inl h
      · exact .inr (.inl (List.mem_singleton.1 h))
    · exact h.elim
    · exact .inr (.inr h)
  · have := H.ll
    rw [List.length_append] at this
    omega
theorem FI_add (H : FI n x ok s out l fun u => u = v) (hv : v < n) (hs : v = s ∨ out.getD v false = true) {t : Nat} (ht : t < n) (he : Ed (rws x) ok v t) (ho : out.getD t false = false) :
    FI n x ok s (out.set t true) (l ++ [t]) fun u => u = v := by
  have htl : t < out.length := by rw [H.len]; exact ht
  have hgd : ∀ u, (out.set t true).getD u false = if u = t then true else out.getD u false := fun u => Zdl htl
  refine { len := by rw [List.length_set]; exact H.len, lb := fun u h => ?_, rc := fun u hu h => ?_, ls := fun u h => ?_, cl := fun u hu h => ?_, ll := ?_ }
  · rcases List.mem_append.1 h with h | h
    · exact H.lb u h
    · rw [List.mem_singleton.1 h]; exact ht
  · rw [hgd] at h
    by_cases e : u = t
    · subst e
      rcases hs with rfl | h2
      · exact ⟨u, he, .refl _⟩
      · obtain ⟨t', h3, h4⟩ := H.rc v hv h2
        exact ⟨t', h3, .step h4 he⟩
    · rw [if_neg e] at h; exact H.rc u hu h
  · rw [hgd]
    rcases List.mem_append.1 h with h | h
    · rcases H.ls u h with h | h
      · exact .inl h
      · right; split
        · rfl
        · exact h
    · right; rw [if_pos (List.mem_singleton.1 h)]
  · rw [hgd] at h
    by_cases e : u = t
    · exact .inl (List.mem_append_right _ (List.mem_singleton.2 e))
    · rw [if_neg e] at h
      rcases H.cl u hu h with h | h | h
      · exact .inl (List.mem_append_left _ h)
      · exact .inr (.inl h)
      · refine .inr (.inr fun w hw => ?_)
        rw [hgd]; split
        · rfl
        · exact h w hw
  · have h1 := Zjr htl ho
    have h2 := H.ll
    rw [List.length_append, List.length_singleton]; omega
theorem FI_end (H : FI n x ok s out l fun u => u = v) (h : ∀ t, Ed (rws x) ok v t → out.getD t false = true) : FI n x ok s out l fun _ => False :=
  { H with cl := fun u hu hs => (H.cl u hu hs).elim .inl fun h1 => h1.elim (fun h1 => by subst h1; exact .inr (.inr h)) fun h1 => .inr (.inr h1) }
theorem FI_done (H : FI n x ok s out [] fun _ => False) (hs : s < n) (hrow : ∀ v, v < n → ∀ t, t ∈ rws x v → t < n) {u : Nat} (hu : u < n) :
    out.getD u false = true ↔ ∃ t, Ed (rws x) ok s t ∧ Rch (Ed (rws x) ok) t u := by
  constructor
  · exact H.rc u hu
  · rintro ⟨t, h1, h2⟩
    have hcl : ∀ u, u < n → (u = s ∨ out.getD u false = true) → ∀ t, Ed (rws x) ok u t → out.getD t false = true := fun u hu h => by
      rcases H.cl u hu h with h | h | h
      · exact absurd h List.not_mem_nil
      · exact h.elim
      · exact h
    have ht := hcl s hs (.inl rfl) t h1
    have htn := hrow s hs t h1.1
    exact (h2.closed (C := fun v => v < n ∧ out.getD v false = true) (fun a b ha hb => ⟨hrow a ha.1 b hb.1, hcl a ha.1 (.inr ha.2) b hb⟩) ⟨htn, ht⟩).2
end
open Classical in
noncomputable def Zec (g : Gm) (s : Nat) (top : Int) : List Bool := (List.range g.own.length).map fun v => decide (Rch1 g top s v)
theorem reachL_len {g : Gm} {s : Nat} {top : Int} : (Zec g s top).length = g.own.length := by simp [Zec]
theorem Zd9 {g : Gm} {s : Nat} {top : Int} {v : Nat} (hv : v < g.own.length) : (Zec g s top).getD v false = true ↔ Rch1 g top s v := by
  simp [Zec, List.getD_eq_getElem?_getD, hv]
theorem reachL_eq {g : Gm} {s : Nat} {top : Int} {l : List Bool} (hl : l.length = g.own.length) (h : ∀ v, v < g.own.length → (l.getD v false = true ↔ Rch1 g top s v)) : l = Zec g s top := by
  refine List.ext_getElem (by rw [hl, reachL_len]) fun j h1 h2 => ?_
  have h3 := h j (by omega)
  have h4 := Zd9 (g := g) (s := s) (top := top) (v := j) (by omega)
  rw [List.getD_eq_getElem?_getD, List.getElem?_eq_getElem h1] at h3
  rw [List.getD_eq_getElem?_getD, List.getElem?_eq_getElem h2] at h4
  simp only [Option.getD_some] at h3 h4
  exact Bool.eq_iff_iff.2 (h3.trans h4.symm)
/-! The reference's own two loops -/
noncomputable def Zfi (g : Gm) (pl : Int) (v : Nat) : Bool := decide (g.pri.getD v 0 % 2 = pl) && (Zec g v (g.pri.getD v 0)).getD v false
theorem Zfh {g : Gm} {pl : Int} {v : Nat} (hv : v < g.own.length) : Zfi g pl v = true ↔ Zkp g pl v := by
  unfold Zfi Zkp
  rw [Bool.and_eq_true, decide_eq_true_iff, Zd9 hv]
noncomputable def Zej (g : Gm) (pl : Int) (v : Nat) : Nat → Bool
  | 0 => Zfi g pl v
  | j + 1 => Zej g pl v j || (Zec g v 60).getD j false && Zfi g pl j
theorem rsome_iff {g : Gm} {pl : Int} {v : Nat} : ∀ {j : Nat}, Zej g pl v j = true ↔ Zfi g pl v = true ∨ ∃ w, w < j ∧ (Zec g v 60).getD w false = true ∧ Zfi g pl w = true
  | 0 => ⟨.inl, fun h => h.elim id fun ⟨w, h, _⟩ => absurd h (Nat.not_lt_zero w)⟩
  | j + 1 => by
    rw [Zej, Bool.or_eq_true, rsome_iff, Bool.and_eq_true]
    constructor
    · rintro ((h | ⟨w, h1, h2⟩) | h)
      · exact .inl h
      · exact .inr ⟨w, by omega, h2⟩
      · exact .inr ⟨j, by omega, h⟩
    · rintro (h | ⟨w, h1, h2⟩)
      · exact .inl (.inl h)
      · by_cases e : w = j
        · subst e; exact .inr h2
        · exact .inl (.inr ⟨w, by omega, h2⟩)
theorem rsome_all {g : Gm} {pl : Int} (hpr : ∀ v, v < g.own.length → g.pri.getD v 0 ≤ 60) (hrow : ∀ v, v < g.own.length → ∀ t, t ∈ rws g.nxt v → t < g.own.length) {v : Nat} (hv : v < g.own.length) : Zej g pl v g.own.length = true ↔ Zga g pl v := by
  rw [rsome_iff]
  unfold Zga
  constructor
  · rintro (h | ⟨w, h1, h2, h3⟩)
    · exact ⟨v, hv, (Zfh hv).1 h, .refl _⟩
    · obtain ⟨t, h4, h5⟩ := (Zd9 h1).1 h2
      exact ⟨w, h1, (Zfh h1).1 h3, RchA.cons h4.1 (Rch.mono (fun a b h => h.1) h5)⟩
  · rintro ⟨w, h1, h2, h3⟩
    rcases Rch.head h3 with e | ⟨t, h4, h5⟩
    · subst e; exact .inl ((Zfh h1).2 h2)
    · refine .inr ⟨w, h1, (Zd9 h1).2 ⟨t, ⟨h4, hpr t (hrow v hv t h4)⟩, ?_⟩, (Zfh h1).2 h2⟩
      have ht := hrow v hv t h4
      have : ∀ {a b : Nat}, Rch (fun a b => b ∈ rws g.nxt a) a b → a < g.own.length → Rch (Ed (rws g.nxt) (okP g.pri 60)) a b ∧ b < g.own.length := fun {a b} h ha => by
        induction h with
        | refl => exact ⟨.refl _, ha⟩
        | step _ e ih =>
          have hb := hrow _ ih.2 _ e
          exact ⟨.step ih.1 ⟨e, hpr _ hb⟩, hb⟩
      exact (this h5 ht).1
noncomputable def Zct : Spec
  | [.agg (.cons (.roI o) (.cons (.roI p) (.cons (.roII x) .nil))), .int .i64 f, .int .i64 top] => some ⟨Zbc ⟨o, p, x⟩ = true ∧ 0 ≤ f ∧ f < (o.length : Int), .roB (Zec ⟨o, p, x⟩ f.toNat top), none⟩
  | _ => none
def spNo : Nat → Option Spec := fun _ => none
theorem Zcc : SpOK Try.prog spNo := fun f S h => by cases h
set_option maxRecDepth 4000 in
set_option maxHeartbeats 4000000 in
theorem reaches_ok : Zb2 Try.prog 51 Zct := by
  refine Za3 htb (fn := Try.f51) (by kernel_rfl) (by kernel_rfl) rfl (fun args r hS => ?_) (fun args r hS hob hl => ?_)
  · unfold Zct at hS; split at hS <;> first | (cases hS; done) | (cases hS; exact Nat.le_of_ble_eq_true rfl)
  unfold Zct at hS
  split at hS
  case h_2 => cases hS
  rename_i o p x f top
  simp only [Option.some.injEq] at hS
  subst hS
  simp only [lenP, mkL, lim] at hl
  dsimp only at hob
  obtain ⟨hv, hf0, hf1⟩ := hob
  obtain ⟨f, rfl⟩ := Int.eq_ofNat_of_zero_le hf0
  have hV := validB_iff.1 hv
  obtain ⟨hn, hpl, hxl, hpos⟩ := id hV
  simp only [Gm.n] at hn hpl hxl
  have hrl : ∀ v, v < o.length → (x.getD v []).length ≤ 64 := fun v h => by
    obtain ⟨⟨a1, a2, a3, a4, _, a6⟩, _⟩ := hpos v (by simp only [Gm.n]; omega)
    exact a6
  have hrb : ∀ v, v < o.length → ∀ j, j < (x.getD v []).length → 0 ≤ (x.getD v []).getD j 0 ∧ (x.getD v []).getD j 0 < o.length := fun v h j hj => by
    obtain ⟨_, hr⟩ := hpos v (by simp only [Gm.n]; omega)
    exact ⟨(hr j hj).1, (hr j hj).2.1⟩
  repeat' first
    | with_reducible first | apply Zan | apply Zaj | apply Zab | apply Zac | apply Zag | apply Zal | apply Zaf | apply Zah | apply Zam | apply Zao | apply Zak
    | ((with_reducible refine Zap ?_); refine Zai rfl ?_ ?_ <;> intro hb <;> (try simp only [zH] at hb)) | ((with_reducible refine Zaq 2 ?_ ?_); (· exact rfl); (first | refine Zad htb hmz Zcc fF rfl rfl ?_ | refine Zae hmo htb hmz Zcc fF rfl rfl (by kernel_rfl) ?_); intro _ _ _ _ h; simp only [zE, evp, evx, ev1, evLoad, evStore, evBin, Zaa, forall_const, z38, tb, reduceAdd, reduceSub, reduceMul, reduceEqDiff, reduceLeDiff, reduceLT, Nat.reduceBEq, Nat.reduceBNe, ↓reduceIte, reduceIte, spNo] at h; obtain ⟨rfl, rfl, rfl, rfl⟩ := h; refine ⟨?_, ?_⟩) | ((with_reducible refine Ob.mk ?_); first | exact trivial | (intros; omega) | ((repeat' first | apply And.intro | (intro a; have b := a; try simp only [zH] at b)) <;> first | assumption | omega | (simp only [zH]; omega)))
  (refine Zad htb hmz Zcc (fun i => Nat.beq i 1) rfl rfl ?_; intro _ _ _ _ h; simp only [zE, evp, evx, ev1, evLoad, evStore, evBin, Zaa, forall_const, z38, tb, reduceAdd, reduceSub, reduceMul, reduceEqDiff, reduceLeDiff, reduceLT, Nat.reduceBEq, Nat.reduceBNe, ↓reduceIte, reduceIte, spNo] at h; obtain ⟨rfl, rfl, rfl, rfl⟩ := h; refine ⟨?_, ?_⟩)
  · first | ((with_reducible refine Ob.mk ?_); first | exact trivial | (intros; omega) | ((repeat' first | apply And.intro | (intro a; have b := a; try simp only [zH] at b)) <;> first | assumption | omega | (simp only [zH]; omega))) | skip
  repeat' first
    | with_reducible first | apply Zan | apply Zaj | apply Zab | apply Zac | apply Zag | apply Zal | apply Zaf | apply Zah | apply Zam | apply Zao | apply Zak
    | ((with_reducible refine Zap ?_); refine Zai rfl ?_ ?_ <;> intro hb <;> (try simp only [zH] at hb)) | ((with_reducible refine Zax ?_); (first | refine Zad htb hmz Zcc fF rfl rfl ?_ | refine Zae hmo htb hmz Zcc fF rfl rfl (by kernel_rfl) ?_); intro _ _ _ _ h; simp only [zE, evp, evx, ev1, evLoad, evStore, evBin, Zaa, forall_const, z38, tb, reduceAdd, reduceSub, reduceMul, reduceEqDiff, reduceLeDiff, reduceLT, Nat.reduceBEq, Nat.reduceBNe, ↓reduceIte, reduceIte, spNo] at h; obtain ⟨rfl, rfl, rfl, rfl⟩ := h; refine ⟨?_, ?_⟩) | ((with_reducible refine Ob.mk ?_); first | exact trivial | (intros; omega) | ((repeat' first | apply And.intro | (intro a; have b := a; try simp only [zH] at b)) <;> first | assumption | omega | (simp only [zH]; omega)))
  refine Zat (τ := FwS) (fun s => FI o.length x (okP p top) f s.out s.l fun _ => False) (fun s => ⟨10, [(8, .own 8), (7, .own 5), (3, .rop (.agg (.cons (.roI o) (.cons (.roI p) (.cons (.roII x) .nil))))), (2, .int .i64 top)],
    [(5, some (.bools s.out)), (8, some (.ints (s.l.map fun v : Nat => (v : Int))))], []⟩) (fun s => 2 * s.out.count false + s.l.length) ⟨List.replicate o.length false, [f]⟩ [] ?_ (FI_begin (by omega)) ?_
  · (refine ⟨rfl, ?_, ?_⟩ <;> simp only [zE, evp, evx, ev1, evLoad, evStore, evBin, Zaa, forall_const, z38, tb, reduceAdd, reduceSub, reduceMul, reduceEqDiff, reduceLeDiff, reduceLT, Nat.reduceBEq, Nat.reduceBNe, ↓reduceIte, reduceIte, spNo, zI])
  rintro ⟨out, l⟩ hd
  have hol := hd.len
  have hll := hd.ll
  dsimp only at hll hol
  dsimp only
  have hlm : (l.map fun v : Nat => (v : Int)).length = l.length := List.length_map ..
  repeat' first
    | with_reducible first | apply Zan | apply Zaj | apply Zab | apply Zac | apply Zag | apply Zal | apply Zaf | apply Zah | apply Zam | apply Zao | apply Zak
    | ((with_reducible refine Zap ?_); refine Zai rfl ?_ ?_ <;> intro hb <;> (try simp only [zH] at hb)) | ((with_reducible refine Zaq 4 ?_ ?_); (· exact rfl); (with_reducible refine Zaq 13 ?_ ?_); (· exact rfl); (first | refine Zad htb hmz Zcc fF rfl rfl ?_ | refine Zae hmo htb hmz Zcc fF rfl rfl (by kernel_rfl) ?_); intro _ _ _ _ h; simp only [zE, evp, evx, ev1, evLoad, evStore, evBin, Zaa, forall_const, z38, tb, reduceAdd, reduceSub, reduceMul, reduceEqDiff, reduceLeDiff, reduceLT, Nat.reduceBEq, Nat.reduceBNe, ↓reduceIte, reduceIte, spNo] at h; obtain ⟨rfl, rfl, rfl, rfl⟩ := h; refine ⟨?_, ?_⟩) | ((with_reducible refine Ob.mk ?_); first | exact trivial | (intros; omega) | ((repeat' first | apply And.intro | (intro a; have b := a; try simp only [zH] at b)) <;> first | assumption | omega | (simp only [zH]; omega)))
  · obtain ⟨q, v, rfl⟩ : ∃ q v, l = q ++ [v] := by
      rcases List.eq_nil_or_concat l with h | ⟨q, v, h⟩
      · subst h; simp at hb
      · exact ⟨q, v, by rw [h, List.concat_eq_append]⟩
    obtain ⟨hP, hvn, hvs⟩ := FI_pop hd
    have hpl2 : (q ++ [v]).length = q.length + 1 := by rw [List.length_append]; rfl
    repeat' first
      | with_reducible first | apply Zan | apply Zaj | apply Zab | apply Zac | apply Zag | apply Zal | apply Zaf | apply Zah | apply Zam | apply Zao | apply Zak
      | ((with_reducible refine Zap ?_); refine Zai rfl ?_ ?_ <;> intro hb <;> (try simp only [zH] at hb)) | ((with_reducible refine Zaq 5 ?_ ?_); (· exact rfl); (first | refine Zad htb hmz Zcc fF rfl rfl ?_ | refine Zae hmo htb hmz Zcc fF rfl rfl (by kernel_rfl) ?_); intro _ _ _ _ h; simp only [zE, evp, evx, ev1, evLoad, evStore, evBin, Zaa, forall_const, z38, tb, reduceAdd, reduceSub, reduceMul, reduceEqDiff, reduceLeDiff, reduceLT, Nat.reduceBEq, Nat.reduceBNe, ↓reduceIte, reduceIte, spNo] at h; obtain ⟨rfl, rfl, rfl, rfl⟩ := h; refine ⟨?_, ?_⟩) | ((with_reducible refine Ob.mk ?_); first | exact trivial | (intros; omega) | ((repeat' first | apply And.intro | (intro a; have b := a; try simp only [zH] at b)) <;> first | assumption | omega | (simp only [zH]; omega)))
    rw [map_last]
    repeat' first
      | with_reducible first | apply Zan | apply Zaj | apply Zab | apply Zac | apply Zag | apply Zal | apply Zaf | apply Zah | apply Zam | apply Zao | apply Zak
      | ((with_reducible refine Zap ?_); refine Zai rfl ?_ ?_ <;> intro hb <;> (try simp only [zH] at hb)) | ((with_reducible refine Zaq 6 ?_ ?_); (· exact rfl); (first | refine Zad htb hmz Zcc fF rfl rfl ?_ | refine Zae hmo htb hmz Zcc fF rfl rfl (by kernel_rfl) ?_); intro _ _ _ _ h; simp only [zE, evp, evx, ev1, evLoad, evStore, evBin, Zaa, forall_const, z38, tb, reduceAdd, reduceSub, reduceMul, reduceEqDiff, reduceLeDiff, reduceLT, Nat.reduceBEq, Nat.reduceBNe, ↓reduceIte, reduceIte, spNo] at h; obtain ⟨rfl, rfl, rfl, rfl⟩ := h; refine ⟨?_, ?_⟩) | ((with_reducible refine Ob.mk ?_); first | exact trivial | (intros; omega) | ((repeat' first | apply And.intro | (intro a; have b := a; try simp only [zH] at b)) <;> first | assumption | omega | (simp only [zH]; omega)))
    rw [map_cut]
    have hqm : (q.map fun v : Nat => (v : Int)).length = q.length := List.length_map ..
    have hlq := hP.ll
    have hv0 : ((v : Nat) : Int).toNat = v := Int.toNat_natCast v
    repeat' first
      | with_reducible first | apply Zan | apply Zaj | apply Zab | apply Zac | apply Zag | apply Zal | apply Zaf | apply Zah | apply Zam | apply Zao | apply Zak
      | ((with_reducible refine Zap ?_); refine Zai rfl ?_ ?_ <;> intro hb <;> (try simp only [zH] at hb)) | ((with_reducible refine Zax ?_); (first | refine Zad htb hmz Zcc fF rfl rfl ?_ | refine Zae hmo htb hmz Zcc fF rfl rfl (by kernel_rfl) ?_); intro _ _ _ _ h; simp only [zE, evp, evx, ev1, evLoad, evStore, evBin, Zaa, forall_const, z38, tb, reduceAdd, reduceSub, reduceMul, reduceEqDiff, reduceLeDiff, reduceLT, Nat.reduceBEq, Nat.reduceBNe, ↓reduceIte, reduceIte, spNo] at h; obtain ⟨rfl, rfl, rfl, rfl⟩ := h; refine ⟨?_, ?_⟩) | ((with_reducible refine Ob.mk ?_); first | exact trivial | (intros; omega) | ((repeat' first | apply And.intro | (intro a; have b := a; try simp only [zH] at b)) <;> first | assumption | omega | (simp only [zH]; omega)))
    have hrlv := hrl v hvn
    have hrbv := hrb v hvn
    have hgr : ∀ j, (rws x v).getD j 0 = ((x.getD v []).getD j 0).toNat := fun j => Zhs
    have hgl : (rws x v).length = (x.getD v []).length := Zf1
    generalize hrw : x.getD v [] = rw at *
    refine Zat (τ := FwJ) (fun t => t.r ≤ rw.length ∧ (FI o.length x (okP p top) f t.out t.l fun u => u = v) ∧ (v = f ∨ t.out.getD v false = true) ∧ 2 * t.out.count false + t.l.length < 2 * out.count false + (q ++ [v]).length ∧ ∀ w, w ∈ (rws x v).take t.r → okP p top w → t.out.getD w false = true) (fun t => ⟨33, [(38, .int .i64 t.r), (37, .int .i64 rw.length), (36, .roI rw), (8, .own 24), (7, .own 5), (3, .rop (.agg (.cons (.roI o) (.cons (.roI p) (.cons (.roII x) .nil))))), (2, .int .i64 top)],
      [(5, some (.bools t.out)), (24, some (.ints (t.l.map fun v : Nat => (v : Int))))], []⟩) (fun t => rw.length - t.r) ⟨out, q, 0⟩ [] ?_ ⟨Nat.zero_le _, hP, hvs, by dsimp only; omega, fun w hw => by simp at hw⟩ ?_
    · (refine ⟨rfl, ?_, ?_⟩ <;> simp only [zE, evp, evx, ev1, evLoad, evStore, evBin, Zaa, forall_const, z38, tb, reduceAdd, reduceSub, reduceMul, reduceEqDiff, reduceLeDiff, reduceLT, Nat.reduceBEq, Nat.reduceBNe, ↓reduceIte, reduceIte, spNo, zI])
    clear hP hvs hlq hqm hd hol hll
    rintro ⟨out2, l, r⟩ ⟨hr, hP, hvs, hms, hdn⟩
    dsimp only at hr hms hvs hdn hP ⊢
    have hol := hP.len
    have hll := hP.ll
    have hlm : (l.map fun v : Nat => (v : Int)).length = l.length := List.length_map ..
    have hrbv := hrbv r
    have hgr := hgr r
    repeat' first
      | with_reducible first | apply Zan | apply Zaj | apply Zab | apply Zac | apply Zag | apply Zal | apply Zaf | apply Zah | apply Zam | apply Zao | apply Zak
      | ((with_reducible refine Zap ?_); refine Zai rfl ?_ ?_ <;> intro hb <;> (try simp only [zH] at hb)) | ((with_reducible refine Zax ?_); (first | refine Zad htb hmz Zcc fF rfl rfl ?_ | refine Zae hmo htb hmz Zcc fF rfl rfl (by kernel_rfl) ?_); intro _ _ _ _ h; simp only [zE, evp, evx, ev1, evLoad, evStore, evBin, Zaa, forall_const, z38, tb, reduceAdd, reduceSub, reduceMul, reduceEqDiff, reduceLeDiff, reduceLT, Nat.reduceBEq, Nat.reduceBNe, ↓reduceIte, reduceIte, spNo] at h; obtain ⟨rfl, rfl, rfl, rfl⟩ := h; refine ⟨?_, ?_⟩) | ((with_reducible refine Ob.mk ?_); first | exact trivial | (intros; omega) | ((repeat' first | apply And.intro | (intro a; have b := a; try simp only [zH] at b)) <;> first | assumption | omega | (simp only [zH]; omega)))
    · have hrr : r < rw.length := by omega
      obtain ⟨u1, u2⟩ := hrbv hrr
      have hed : Ed (rws x) (okP p top) v (rw.getD r 0).toNat := ⟨by
        rw [← hgr, List.getD_eq_getElem?_getD, List.getElem?_eq_getElem (by omega)]; exact List.getElem_mem _, hb.1⟩
      have hun : (rw.getD r 0).toNat < o.length := by omega
      have hcf := Zjr (l := out2) (t := (rw.getD r 0).toNat) (by omega) hb.2
      have hgs : ∀ u, (out2.set (rw.getD r 0).toNat true).getD u false = if u = (rw.getD r 0).toNat then true else out2.getD u false := fun u => Zdl (by omega)
      refine back ⟨out2.set (rw.getD r 0).toNat true, l ++ [(rw.getD r 0).toNat], r + 1⟩ [(24, 58)] ?_ ⟨by dsimp only; omega, FI_add hP hvn hvs hun hed hb.2, ?_, ?_, fun w hw ho => ?_⟩ (by dsimp only; omega)
      · (refine ⟨rfl, ?_, ?_⟩ <;> simp only [zE, evp, evx, ev1, evLoad, evStore, evBin, Zaa, forall_const, z38, tb, reduceAdd, reduceSub, reduceMul, reduceEqDiff, reduceLeDiff, reduceLT, Nat.reduceBEq, Nat.reduceBNe, ↓reduceIte, reduceIte, spNo, zI])
        rw [List.map_append, List.map_cons, List.map_nil]
        have : (((rw.getD r 0).toNat : Nat) : Int) = rw.getD r 0 := by omega
        rw [this]
      · dsimp only
        rw [hgs]
        rcases hvs with h | h
        · exact .inl h
        · right; split
          · rfl
          · exact h
      · dsimp only
        rw [List.length_append, List.length_singleton]; omega
      · dsimp only at hw ⊢
        rw [hgs]
        split
        · rfl
        · rename_i hne
          rw [Zhb (d := 0) (by omega), hgr] at hw
          rcases List.mem_append.1 hw with h | h
          · exact hdn w h ho
          · exact absurd (List.mem_singleton.1 h) hne
    · have hrr : r < rw.length := by omega
      refine back ⟨out2, l, r + 1⟩ [] ?_ ⟨by dsimp only; omega, hP, hvs, hms, fun w hw ho => ?_⟩ (by dsimp only; omega)
      · (refine ⟨rfl, ?_, ?_⟩ <;> simp only [zE, evp, evx, ev1, evLoad, evStore, evBin, Zaa, forall_const, z38, tb, reduceAdd, reduceSub, reduceMul, reduceEqDiff, reduceLeDiff, reduceLT, Nat.reduceBEq, Nat.reduceBNe, ↓reduceIte, reduceIte, spNo, zI])
      · dsimp only at hw ⊢
        rw [Zhb (d := 0) (by omega), hgr] at hw
        rcases List.mem_append.1 hw with h | h
        · exact hdn w h ho
        · have e := List.mem_singleton.1 h
          rw [e] at ho ⊢
          rcases hb with h2 | h2
          · unfold okP at ho; omega
          · exact h2
    · have hre : r = rw.length := by omega
      subst hre
      refine back ⟨out2, l⟩ [(8, 24)] ?_ (FI_end hP fun t ht => hdn t ?_ ht.2) (by dsimp only; omega)
      · (refine ⟨rfl, ?_, ?_⟩ <;> simp only [zE, evp, evx, ev1, evLoad, evStore, evBin, Zaa, forall_const, z38, tb, reduceAdd, reduceSub, reduceMul, reduceEqDiff, reduceLeDiff, reduceLT, Nat.reduceBEq, Nat.reduceBNe, ↓reduceIte, reduceIte, spNo, zI])
      · rw [List.take_of_length_le (by omega)]; exact ht.1
  have hl0 : l = [] := by
    cases l with
    | nil => rfl
    | cons a l => simp only [List.map_cons, List.length_cons] at hb; omega
  subst hl0
  refine Zbi 5 (.roB out) (by simp only [Zar, Zaw, fzE, fzA, fzR, fzB, set1, nbeq, reduceEqDiff, decide_true, decide_false, ↓reduceIte, reduceIte, cond_true, cond_false, List.take_length, Option.some.injEq]; rfl) (by first | exact rfl | (refine ⟨?_, rfl⟩; first | rfl | (intros; rfl))) (by simp only [Zar, Zaw, fzE, fzA, fzR, fzB, set1, nbeq, reduceEqDiff, decide_true, decide_false, ↓reduceIte, reduceIte, cond_true, cond_false, List.take_length, Option.some.injEq]; rfl) (by simp only [Zar, Zaw, fzE, fzA, fzR, fzB, set1, nbeq, reduceEqDiff, decide_true, decide_false, ↓reduceIte, reduceIte, cond_true, cond_false, List.take_length, Option.some.injEq]; rfl) ?_
  repeat' first
    | with_reducible first | apply Zan | apply Zaj | apply Zab | apply Zac | apply Zag | apply Zal | apply Zaf | apply Zah | apply Zam | apply Zao | apply Zak
    | ((with_reducible refine Zap ?_); refine Zai rfl ?_ ?_ <;> intro hb <;> (try simp only [zH] at hb)) | ((with_reducible refine Zax ?_); (first | refine Zad htb hmz Zcc fF rfl rfl ?_ | refine Zae hmo htb hmz Zcc fF rfl rfl (by kernel_rfl) ?_); intro _ _ _ _ h; simp only [zE, evp, evx, ev1, evLoad, evStore, evBin, Zaa, forall_const, z38, tb, reduceAdd, reduceSub, reduceMul, reduceEqDiff, reduceLeDiff, reduceLT, Nat.reduceBEq, Nat.reduceBNe, ↓reduceIte, reduceIte, spNo] at h; obtain ⟨rfl, rfl, rfl, rfl⟩ := h; refine ⟨?_, ?_⟩) | ((with_reducible refine Ob.mk ?_); first | exact trivial | (intros; omega) | ((repeat' first | apply And.intro | (intro a; have b := a; try simp only [zH] at b)) <;> first | assumption | omega | (simp only [zH]; omega)))
  refine Zav rfl rfl (Zas rfl ?_ rfl)
  refine congrArg AV.roB (reachL_eq hol fun v hv => ?_)
  exact FI_done hd (by omega) (fun v hv t ht => by
      obtain ⟨j, hj, rfl⟩ := List.getElem_of_mem ht
      rw [Zf1] at hj
      have := hrb v hv j hj
      have e : (rws x v)[j] = (rws x v).getD j 0 := by rw [List.getD_eq_getElem?_getD, List.getElem?_eq_getElem (by rw [Zf1]; exact hj)]; rfl
      rw [e, Zhs]; omega) hv
section
open Pl
def Low (E : Nat → Nat → Prop) (pri : Nat → Int) (w a b : Nat) : Prop := E a b ∧ pri b ≤ pri w
def Cyc (E : Nat → Nat → Prop) (pri : Nat → Int) (w : Nat) : Prop := ∃ t, Low E pri w w t ∧ Rch (Low E pri w) t w
theorem Rch.cons {E : Nat → Nat → Prop} {a b c : Nat} (h : E a b) (h2 : Rch E b c) : Rch E a c := Rch.trans (Rch.one h) h2
theorem Rch.uncons {E : Nat → Nat → Prop} {a b : Nat} (h : Rch E a b) : a = b ∨ ∃ t, E a t ∧ Rch E t b := by
  induction h with
  | refl => exact .inl rfl
  | step h e ih =>
    rcases ih with rfl | ⟨t, h1, h2⟩
    · exact .inr ⟨_, e, .refl _⟩
    · exact .inr ⟨t, h1, .step h2 e⟩
def OnC (E : Nat → Nat → Prop) (pri : Nat → Int) (w t z : Nat) : Prop := Rch (Low E pri w) t z ∧ Rch (Low E pri w) z w
theorem Zg3 {E : Nat → Nat → Prop} {pri : Nat → Int} {w t z : Nat} (ht : Low E pri w w t) (htw : Rch (Low E pri w) t w) (h : OnC E pri w t z) : ∃ s, E z s ∧ OnC E pri w t s := by
  rcases h.2.uncons with rfl | ⟨s, h1, h2⟩
  · exact ⟨t, ht.1, .refl _, htw⟩
  · exact ⟨s, h1.1, .step h.1 h1, h2⟩
theorem on_low {E : Nat → Nat → Prop} {pri : Nat → Int} {w t z : Nat} (ht : Low E pri w w t) (h : OnC E pri w t z) : pri z ≤ pri w := by
  cases h.1 with
  | refl => exact ht.2
  | step _ e => exact e.2
theorem on_rank {E : Nat → Nat → Prop} {pri : Nat → Int} {w t : Nat} (ht : Low E pri w w t) (htw : Rch (Low E pri w) t w) {A : Nat → Prop} {r : Nat → Nat} (hA : ∀ z s, OnC E pri w t z → A z → E z s → A s ∧ r s < r z) : ∀ z, OnC E pri w t z → ¬ A z := by
  intro z
  generalize hk : r z = k
  induction k using Nat.strongRecOn generalizing z with
  | ind k ih =>
    intro hz ha
    obtain ⟨s, h1, h2⟩ := Zg3 ht htw hz
    obtain ⟨h3, h4⟩ := hA z s hz ha h1
    exact ih (r s) (by omega) s rfl h2 h3
theorem Zda {E E' : Nat → Nat → Prop} {pri : Nat → Int} {w t : Nat} (ht : Low E pri w w t) (htw : Rch (Low E pri w) t w) (h : ∀ a b, OnC E pri w t a → OnC E pri w t b → E a b → E' a b) : Cyc E' pri w := by
  have hw : OnC E pri w t w := ⟨htw, .refl _⟩
  refine ⟨t, ⟨h w t hw ⟨.refl _, htw⟩ ht.1, ht.2⟩, ?_⟩
  have key : ∀ c, Rch (Low E pri w) t c → Rch (Low E pri w) c w → Rch (Low E' pri w) t c := by
    intro c hc
    induction hc with
    | refl => intro _; exact .refl _
    | step h1 e ih =>
      intro h2
      have h3 := Rch.cons e h2
      exact .step (ih h3) ⟨h _ _ ⟨h1, h3⟩ ⟨.step h1 e, h2⟩ e.1, e.2⟩
  exact key w htw (.refl _)
variable (own pri : Nat → Int) (sx : Nat → List Nat)
def Stp (K : Nat → Prop) (W : Nat → Int) (c : Nat → Nat) (p : Int) (v t : Nat) : Prop := (K v ∧ W v = p) ∧ K t ∧ (own v = p → t = c v) ∧ (own v ≠ p → t ∈ sx v)
structure Sol (K : Nat → Prop) (W : Nat → Int) (c : Nat → Nat) (p : Int) : Prop where
  mine : ∀ v, K v → W v = p → own v = p → c v ∈ sx v ∧ K (c v) ∧ W (c v) = p
  his : ∀ v, K v → W v = p → own v ≠ p → ∀ t, t ∈ sx v → K t → W t = p
  cyc : ∀ w, K w → W w = p → pri w % 2 ≠ p → ¬ Cyc (Stp own sx K W c p) pri w
def Trap (K : Nat → Prop) : Prop := ∀ v, K v → ∃ t, t ∈ sx v ∧ K t
structure Atr (K A T : Nat → Prop) (q : Int) (c : Nat → Nat) (r : Nat → Nat) : Prop where
  sub : ∀ v, A v → K v
  base : ∀ v, T v → A v
  mine : ∀ v, A v → ¬ T v → own v = q → c v ∈ sx v ∧ A (c v) ∧ r (c v) < r v
  his : ∀ v, A v → ¬ T v → own v ≠ q → ∀ t, t ∈ sx v → K t → A t ∧ r t < r v
  outm : ∀ v, K v → ¬ A v → own v = q → ∀ t, t ∈ sx v → K t → ¬ A t
  outh : ∀ v, K v → ¬ A v → own v ≠ q → ∃ t, t ∈ sx v ∧ K t ∧ ¬ A t
variable {own pri sx}
variable {K A T R : Nat → Prop} {W W' : Nat → Int} {c c' : Nat → Nat} {r : Nat → Nat} {p q : Int}
theorem Atr.trap (h : Atr own sx K A T q c r) (hK : Trap sx K) : Trap sx fun v => K v ∧ ¬ A v := fun v hv => by
  by_cases ho : own v = q
  · obtain ⟨t, h1, h2⟩ := hK v hv.1
    exact ⟨t, h1, h2, h.outm v hv.1 hv.2 ho t h1 h2⟩
  · obtain ⟨t, h1, h2, h3⟩ := h.outh v hv.1 hv.2 ho
    exact ⟨t, h1, h2, h3⟩
theorem sol_all {top : Int} (hp : top % 2 = p) (htop : ∀ v, K v → pri v ≤ top) (hT : ∀ v, T v ↔ K v ∧ pri v = top) (hA : Atr own sx K A T p c r)
    (hU : ∀ v, T v → own v = p → c v ∈ sx v ∧ K (c v)) (hS : Sol own pri sx (fun v => K v ∧ ¬ A v) W' c p) (hW' : ∀ v, K v → ¬ A v → W' v = p) (hW : ∀ v, K v → W v = p) :
    Sol own pri sx K W c p ∧ ∀ q, q ≠ p → Sol own pri sx K W c q := by
  refine ⟨⟨fun v hv _ ho => ?_, fun v hv _ ho t ht hk => hW t hk, fun w hw _ hpar => ?_⟩, fun q hq => ⟨fun v hv h => absurd ((hW v hv).symm.trans h).symm hq, fun v hv h => absurd ((hW v hv).symm.trans h).symm hq, fun v hv h => absurd ((hW v hv).symm.trans h).symm hq⟩⟩
  · by_cases hat : A v
    · by_cases htt : T v
      · obtain ⟨h1, h2⟩ := hU v htt ho
        exact ⟨h1, h2, hW _ h2⟩
      · obtain ⟨h1, h2, _⟩ := hA.mine v hat htt ho
        exact ⟨h1, hA.sub _ h2, hW _ (hA.sub _ h2)⟩
    · obtain ⟨h1, h2, h3⟩ := hS.mine v ⟨hv, hat⟩ (hW' v hv hat) ho
      exact ⟨h1, h2.1, hW _ h2.1⟩
  · rintro ⟨t, ht, htw⟩
    have hwt : ¬ T w := fun h => hpar (by rw [((hT w).1 h).2]; exact hp)
    have hlt : pri w < top := by
      have h1 := htop w hw
      rcases Int.lt_or_eq_of_le h1 with h2 | h2
      · exact h2
      · exact absurd ((hT w).2 ⟨hw, h2⟩) hwt
    have hnt : ∀ z, OnC (Stp own sx K W c p) pri w t z → ¬ T z := fun z hz h => by
      have h1 := on_low ht hz
      have h2 := ((hT z).1 h).2
      omega
    have hna := on_rank ht htw (A := A) (r := r) fun z s hz ha e => by
      obtain ⟨⟨e1, e2⟩, e3, e4, e5⟩ := e
      by_cases ho : own z = p
      · rw [e4 ho]; exact (hA.mine z ha (hnt z hz) ho).2
      · exact hA.his z ha (hnt z hz) ho s (e5 ho) e3
    have hKz : ∀ z, OnC (Stp own sx K W c p) pri w t z → K z := fun z hz => by
      obtain ⟨s, h1, _⟩ := Zg3 ht htw hz
      exact h1.1.1
    have hww : OnC (Stp own sx K W c p) pri w t w := ⟨htw, .refl _⟩
    refine hS.cyc w ⟨hw, hna w hww⟩ (hW' w hw (hna w hww)) hpar (Zda ht htw fun a b h1 h2 e => ?_)
    obtain ⟨⟨e1, e2⟩, e3, e4, e5⟩ := e
    exact ⟨⟨⟨e1, hna a h1⟩, hW' a e1 (hna a h1)⟩, ⟨e3, hna b h2⟩, e4, e5⟩
theorem Sol.congr {c c' : Nat → Nat} (h : Sol own pri sx K W c' p) (hc : ∀ v, K v → W v = p → own v = p → c v = c' v) : Sol own pri sx K W c p := by
  refine ⟨fun v h1 h2 h3 => by rw [hc v h1 h2 h3]; exact h.mine v h1 h2 h3, h.his, fun w h1 h2 h3 => ?_⟩
  rintro ⟨t, ht, htw⟩
  refine h.cyc w h1 h2 h3 (Zda ht htw fun a b _ _ e => ?_)
  obtain ⟨⟨e1, e2⟩, e3, e4, e5⟩ := e
  exact ⟨⟨e1, e2⟩, e3, fun ho => by rw [e4 ho, hc a e1 e2 ho], e5⟩
variable {B : Nat → Prop} {W2 : Nat → Int} {cA : Nat → Nat} {rA rB : Nat → Nat}
theorem sol_part (hpq : p ≠ q) (hown : ∀ v, K v → own v = p ∨ own v = q) (hA : Atr own sx K A T p cA rA) (hS : Sol own pri sx (fun v => K v ∧ ¬ A v) W' c q)
    (hB : Atr own sx K B (fun v => (K v ∧ ¬ A v) ∧ W' v = q) q c rB) (h2p : Sol own pri sx (fun v => K v ∧ ¬ B v) W2 c p) (h2q : Sol own pri sx (fun v => K v ∧ ¬ B v) W2 c q)
    (hWB : ∀ v, B v → W v = q) (hW2 : ∀ v, K v → ¬ B v → W v = W2 v) : Sol own pri sx K W c p ∧ Sol own pri sx K W c q := by
  have hnb : ∀ v, K v → W v = p → ¬ B v := fun v hv h hb => hpq (h.symm.trans (hWB v hb))
  refine ⟨⟨fun v hv h ho => ?_, fun v hv h ho t ht hk => ?_, fun w hw h hpar => ?_⟩, ⟨fun v hv h ho => ?_, fun v hv h ho t ht hk => ?_, fun w hw h hpar => ?_⟩⟩
  · have hb := hnb v hv h
    obtain ⟨h1, h2, h3⟩ := h2p.mine v ⟨hv, hb⟩ ((hW2 v hv hb).symm.trans h) ho
    exact ⟨h1, h2.1, (hW2 _ h2.1 h2.2).trans h3⟩
  · have hb := hnb v hv h
    have hoq : own v = q := (hown v hv).resolve_left ho
    have hbt := hB.outm v hv hb hoq t ht hk
    exact (hW2 t hk hbt).trans (h2p.his v ⟨hv, hb⟩ ((hW2 v hv hb).symm.trans h) ho t ht ⟨hk, hbt⟩)
  · rintro ⟨t, ht, htw⟩
    have hb := hnb w hw h
    refine h2p.cyc w ⟨hw, hb⟩ ((hW2 w hw hb).symm.trans h) hpar (Zda ht htw fun a b h1 h2 e => ?_)
    obtain ⟨⟨e1, e2⟩, e3, e4, e5⟩ := e
    have hba := hnb a e1 e2
    have hbb : ¬ B b := by
      obtain ⟨s, hs, _⟩ := Zg3 ht htw h2
      exact hnb b hs.1.1 hs.1.2
    exact ⟨⟨⟨e1, hba⟩, (hW2 a e1 hba).symm.trans e2⟩, ⟨e3, hbb⟩, e4, e5⟩
  · by_cases hb : B v
    · by_cases hl : (K v ∧ ¬ A v) ∧ W' v = q
      · obtain ⟨h1, h2, h3⟩ := hS.mine v hl.1 hl.2 ho
        exact ⟨h1, h2.1, hWB _ (hB.base _ ⟨h2, h3⟩)⟩
      · obtain ⟨h1, h2, _⟩ := hB.mine v hb hl ho
        exact ⟨h1, hB.sub _ h2, hWB _ h2⟩
    · obtain ⟨h1, h2, h3⟩ := h2q.mine v ⟨hv, hb⟩ ((hW2 v hv hb).symm.trans h) ho
      exact ⟨h1, h2.1, (hW2 _ h2.1 h2.2).trans h3⟩
  · have hop : own v = p := (hown v hv).resolve_right ho
    by_cases hb : B v
    · by_cases hl : (K v ∧ ¬ A v) ∧ W' v = q
      · have hat := hA.outm v hv hl.1.2 hop t ht hk
        exact hWB _ (hB.base _ ⟨⟨hk, hat⟩, hS.his v hl.1 hl.2 ho t ht ⟨hk, hat⟩⟩)
      · exact hWB _ (hB.his v hb hl ho t ht hk).1
    · by_cases hbt : B t
      · exact hWB _ hbt
      · exact (hW2 t hk hbt).trans (h2q.his v ⟨hv, hb⟩ ((hW2 v hv hb).symm.trans h) ho t ht ⟨hk, hbt⟩)
  · rintro ⟨t, ht, htw⟩
    have hww : OnC (Stp own sx K W c q) pri w t w := ⟨htw, .refl _⟩
    have hcl : ∀ a b, ((K a ∧ ¬ A a) ∧ W' a = q) → Stp own sx K W c q a b → ((K b ∧ ¬ A b) ∧ W' b = q) := fun a b ha e => by
      obtain ⟨⟨e1, e2⟩, e3, e4, e5⟩ := e
      by_cases ho : own a = q
      · rw [e4 ho]
        obtain ⟨h1, h2, h3⟩ := hS.mine a ha.1 ha.2 ho
        exact ⟨h2, h3⟩
      · have hop : own a = p := (hown a e1).resolve_right ho
        have hat := hA.outm a e1 ha.1.2 hop b (e5 ho) e3
        exact ⟨⟨e3, hat⟩, hS.his a ha.1 ha.2 ho b (e5 ho) ⟨e3, hat⟩⟩
    by_cases hex : ∃ z, OnC (Stp own sx K W c q) pri w t z ∧ ((K z ∧ ¬ A z) ∧ W' z = q)
    · obtain ⟨z, hz, hl⟩ := hex
      have hlw := Rch.closed (C := fun v => (K v ∧ ¬ A v) ∧ W' v = q) (fun a b h1 h2 => hcl a b h1 h2.1) hz.2 hl
      have hla : ∀ a, OnC (Stp own sx K W c q) pri w t a → (K a ∧ ¬ A a) ∧ W' a = q := fun a ha =>
        Rch.closed (C := fun v => (K v ∧ ¬ A v) ∧ W' v = q) (fun a b h1 h2 => hcl a b h1 h2.1) (Rch.cons ht ha.1) hlw
      refine hS.cyc w hlw.1 hlw.2 hpar (Zda ht htw fun a b h1 h2 e => ?_)
      obtain ⟨⟨e1, e2⟩, e3, e4, e5⟩ := e
      exact ⟨hla a h1, (hla b h2).1, e4, e5⟩
    · have hno : ∀ z, OnC (Stp own sx K W c q) pri w t z → ¬ ((K z ∧ ¬ A z) ∧ W' z = q) := fun z hz hl => hex ⟨z, hz, hl⟩
      have hnB := on_rank ht htw (A := B) (r := rB) fun z s hz ha e => by
        obtain ⟨⟨e1, e2⟩, e3, e4, e5⟩ := e
        by_cases ho : own z = q
        · rw [e4 ho]; exact (hB.mine z ha (hno z hz) ho).2
        · exact hB.his z ha (hno z hz) ho s (e5 ho) e3
      have hbw := hnB w hww
      refine h2q.cyc w ⟨hw, hbw⟩ ((hW2 w hw hbw).symm.trans h) hpar (Zda ht htw fun a b h1 h2 e => ?_)
      obtain ⟨⟨e1, e2⟩, e3, e4, e5⟩ := e
      have hba := hnB a h1
      exact ⟨⟨⟨e1, hba⟩, (hW2 a e1 hba).symm.trans e2⟩, ⟨e3, hnB b h2⟩, e4, e5⟩
/-! ### What is attracted -/
def lay (own : Nat → Int) (sx : Nat → List Nat) (K T : Nat → Prop) (q : Int) : Nat → Nat → Prop
  | 0, v => T v
  | k + 1, v => lay own sx K T q k v ∨ (K v ∧ own v = q ∧ ∃ t, t ∈ sx v ∧ K t ∧ lay own sx K T q k t) ∨ (K v ∧ own v ≠ q ∧ ∀ t, t ∈ sx v → K t → lay own sx K T q k t)
def Att (own : Nat → Int) (sx : Nat → List Nat) (K T : Nat → Prop) (q : Int) (v : Nat) : Prop := ∃ k, lay own sx K T q k v
theorem lay_le {k j v : Nat} (h : lay own sx K T q k v) : lay own sx K T q (k + j) v := by
  induction j with
  | zero => exact h
  | succ j ih => exact .inl ih
theorem Zi6 {v : Nat} : ∀ {l : List Nat}, (∀ t, t ∈ l → K t → Att own sx K T q t) → ∃ k, ∀ t, t ∈ l → K t → lay own sx K T q k t
  | [], _ => ⟨0, fun t ht => absurd ht List.not_mem_nil⟩
  | a :: l, h => by
    obtain ⟨k, hk⟩ := Zi6 (v := v) (l := l) fun t ht => h t (List.mem_cons_of_mem _ ht)
    by_cases ha : K a
    · obtain ⟨j, hj⟩ := h a List.mem_cons_self ha
      refine ⟨k + j, fun t ht hkt => ?_⟩
      rcases List.mem_cons.1 ht with rfl | ht
      · rw [Nat.add_comm]; exact lay_le hj
      · exact lay_le (hk t ht hkt)
    · refine ⟨k, fun t ht hkt => ?_⟩
      rcases List.mem_cons.1 ht with rfl | ht
      · exact absurd hkt ha
      · exact hk t ht hkt
theorem least_lay {v : Nat} (h : Att own sx K T q v) : ∃ k, lay own sx K T q k v ∧ ∀ j, j < k → ¬ lay own sx K T q j v := by
  obtain ⟨k, hk⟩ := h
  induction k using Nat.strongRecOn with
  | ind k ih =>
    by_cases h : ∃ j, j < k ∧ lay own sx K T q j v
    · obtain ⟨j, h1, h2⟩ := h; exact ih j h1 h2
    · exact ⟨k, hk, fun j hj hl => h ⟨j, hj, hl⟩⟩
open Classical in
noncomputable def layR (own : Nat → Int) (sx : Nat → List Nat) (K T : Nat → Prop) (q : Int) (v : Nat) : Nat := if h : Att own sx K T q v then Classical.choose (least_lay h) else 0
theorem layR_is {v : Nat} (h : Att own sx K T q v) : lay own sx K T q (layR own sx K T q v) v ∧ ∀ j, j < layR own sx K T q v → ¬ lay own sx K T q j v := by
  unfold layR; rw [dif_pos h]; exact Classical.choose_spec (least_lay h)
theorem layR_le {v k : Nat} (h : lay own sx K T q k v) : layR own sx K T q v ≤ k := Nat.not_lt.1 fun hlt => (layR_is ⟨k, h⟩).2 k hlt h
theorem lay_sub (hT : ∀ v, T v → K v) {k v : Nat} (h : lay own sx K T q k v) : K v := by
  induction k with
  | zero => exact hT v h
  | succ k ih => rcases h with h | h | h <;> first | exact ih h | exact h.1
theorem Zjf (hT : ∀ v, T v → K v) : ∃ c r, Atr own sx K (Att own sx K T q) T q c r := by
  have hst : ∀ v, Att own sx K T q v → ¬ T v → ∃ k, layR own sx K T q v = k + 1 ∧ ((K v ∧ own v = q ∧ ∃ t, t ∈ sx v ∧ K t ∧ lay own sx K T q k t) ∨ (K v ∧ own v ≠ q ∧ ∀ t, t ∈ sx v → K t → lay own sx K T q k t)) := fun v hv ht => by
    obtain ⟨h1, h2⟩ := layR_is hv
    cases hk : layR own sx K T q v with
    | zero => rw [hk] at h1; exact absurd h1 ht
    | succ k =>
      rw [hk] at h1 h2
      exact ⟨k, rfl, h1.resolve_left (h2 k (by omega))⟩
  have hc : ∀ v, ∃ t, Att own sx K T q v → ¬ T v → own v = q → t ∈ sx v ∧ Att own sx K T q t ∧ layR own sx K T q t < layR own sx K T q v := fun v => by
    by_cases h : Att own sx K T q v ∧ ¬ T v ∧ own v = q
    · obtain ⟨k, hk, h2⟩ := hst v h.1 h.2.1
      rcases h2 with ⟨_, _, t, h3, _, h4⟩ | h2
      · refine ⟨t, fun _ _ _ => ⟨h3, ⟨k, h4⟩, ?_⟩⟩
        have := layR_le h4; omega
      · exact absurd h.2.2 h2.2.1
    · exact ⟨0, fun h1 h2 h3 => absurd ⟨h1, h2, h3⟩ h⟩
  refine ⟨fun v => Classical.choose (hc v), layR own sx K T q, fun v ⟨k, h⟩ => lay_sub hT h, fun v h => ⟨0, h⟩, fun v h1 h2 h3 => Classical.choose_spec (hc v) h1 h2 h3, fun v h1 h2 h3 t ht hk => ?_, fun v hv hna ho t ht hk hat => ?_, fun v hv hna ho => ?_⟩
  · obtain ⟨k, hk', h4⟩ := hst v h1 h2
    rcases h4 with h4 | h4
    · exact absurd h4.2.1 h3
    · have h5 := h4.2.2 t ht hk
      have := layR_le h5
      exact ⟨⟨k, h5⟩, by omega⟩
  · obtain ⟨k, h⟩ := hat
    exact hna ⟨k + 1, .inr (.inl ⟨hv, ho, t, ht, hk, h⟩)⟩
  · refine Classical.byContradiction fun hno => ?_
    obtain ⟨k, hk⟩ := Zi6 (own := own) (sx := sx) (K := K) (T := T) (q := q) (v := v) (l := sx v) fun t ht hkt => Classical.byContradiction fun h => hno ⟨t, ht, hkt, h⟩
    exact hna ⟨k + 1, .inr (.inr ⟨hv, ho, hk⟩)⟩
theorem att_least {X : Nat → Prop} (h0 : ∀ v, T v → X v) (h1 : ∀ v t, K v → own v = q → t ∈ sx v → K t → X t → X v) (h2 : ∀ v, K v → own v ≠ q → (∀ t, t ∈ sx v → K t → X t) → X v) {v : Nat} (h : Att own sx K T q v) : X v := by
  obtain ⟨k, hk⟩ := h
  induction k generalizing v with
  | zero => exact h0 v hk
  | succ k ih =>
    rcases hk with h | ⟨a, b, t, c, d, e⟩ | ⟨a, b, c⟩
    · exact ih h
    · exact h1 v t a b c d (ih e)
    · exact h2 v a b fun t ht hk => ih (c t ht hk)
/-! ### The recursion -/
def topR (pri : Nat → Int) (K : Nat → Bool) : Nat → Int
  | 0 => -1
  | i + 1 => if K i = true then max (topR pri K i) (pri i) else topR pri K i
theorem Zix {pri : Nat → Int} {K : Nat → Bool} {v : Nat} (hv : K v = true) : ∀ {n : Nat}, v < n → pri v ≤ topR pri K n
  | 0, h => absurd h (Nat.not_lt_zero _)
  | n + 1, h => by
    unfold topR
    by_cases e : v = n
    · subst e; rw [if_pos hv]; omega
    · have := Zix (pri := pri) hv (n := n) (by omega)
      split <;> omega
theorem topR_mem {pri : Nat → Int} {K : Nat → Bool} : ∀ {n : Nat}, topR pri K n = -1 ∨ ∃ v, v < n ∧ K v = true ∧ pri v = topR pri K n
  | 0 => .inl rfl
  | n + 1 => by
    unfold topR
    split
    · rename_i h
      by_cases h2 : topR pri K n ≤ pri n
      · exact .inr ⟨n, by omega, h, by omega⟩
      · rcases topR_mem (pri := pri) (K := K) (n := n) with e | ⟨v, h3, h4, h5⟩
        · exact .inl (by omega)
        · exact .inr ⟨v, by omega, h4, by omega⟩
    · rcases topR_mem (pri := pri) (K := K) (n := n) with e | ⟨v, h3, h4, h5⟩
      · exact .inl e
      · exact .inr ⟨v, by omega, h4, h5⟩
open Classical in
noncomputable def attB (own : Nat → Int) (sx : Nat → List Nat) (K T : Nat → Bool) (q : Int) (v : Nat) : Bool := decide (Att own sx (fun v => K v = true) (fun v => T v = true) q v)
theorem attB_iff {K T : Nat → Bool} {v : Nat} : attB own sx K T q v = true ↔ Att own sx (fun v => K v = true) (fun v => T v = true) q v := by simp [attB]
def topS (pri : Nat → Int) (K : Nat → Bool) (n v : Nat) : Bool := K v && decide (pri v = topR pri K n)
noncomputable def Zcd (own pri : Nat → Int) (sx : Nat → List Nat) (n : Nat) (K : Nat → Bool) (v : Nat) : Bool := K v && !attB own sx K (topS pri K n) (topR pri K n % 2) v
noncomputable def winZ (own pri : Nat → Int) (sx : Nat → List Nat) (n : Nat) : Nat → (Nat → Bool) → Nat → Int
  | 0, _, _ => 0
  | k + 1, K, v =>
    if topR pri K n < 0 then 0
    else if ∀ u, u < n → Zcd own pri sx n K u = true → winZ own pri sx n k (Zcd own pri sx n K) u = topR pri K n % 2 then topR pri K n % 2
    else if attB own sx K (fun u => Zcd own pri sx n K u && decide (winZ own pri sx n k (Zcd own pri sx n K) u ≠ topR pri K n % 2)) (1 - topR pri K n % 2) v = true then 1 - topR pri K n % 2
    else winZ own pri sx n k (fun u => K u && !attB own sx K (fun u => Zcd own pri sx n K u && decide (winZ own pri sx n k (Zcd own pri sx n K) u ≠ topR pri K n % 2)) (1 - topR pri K n % 2) u) v
def cntZ (n : Nat) (K : Nat → Bool) : Nat := (List.range n).countP K
theorem Zjq {n : Nat} {K K' : Nat → Bool} {v : Nat} (h : ∀ u, K' u = true → K u = true) (hv : v < n) (h1 : K v = true) (h2 : K' v = false) : cntZ n K' < cntZ n K := by
  unfold cntZ
  have hm : v ∈ List.range n := List.mem_range.2 hv
  generalize List.range n = l at hm
  induction l with
  | nil => exact absurd hm List.not_mem_nil
  | cons a l ih =>
    have hle : l.countP K' ≤ l.countP K := List.countP_mono_left fun x _ hx => h x hx
    rw [List.countP_cons, List.countP_cons]
    rcases List.mem_cons.1 hm with rfl | hm
    · rw [h1, h2]; simp; omega
    · have := ih hm
      have h3 : K' a = true → K a = true := h a
      cases e : K' a with
      | true => rw [h3 e]; simp; omega
      | false => cases K a <;> simp <;> omega
theorem cnt_pos {n : Nat} {K : Nat → Bool} {v : Nat} (hv : v < n) (h1 : K v = true) : 0 < cntZ n K := List.countP_pos_iff.2 ⟨v, List.mem_range.2 hv, h1⟩
theorem Atr.congr (h : Atr own sx K A T q c' r) (hc : ∀ v, A v → ¬ T v → own v = q → c v = c' v) : Atr own sx K A T q c r :=
  ⟨h.sub, h.base, fun v h1 h2 h3 => by rw [hc v h1 h2 h3]; exact h.mine v h1 h2 h3, h.his, h.outm, h.outh⟩
theorem Atr.congrT {T' : Nat → Prop} (h : Atr own sx K A T q c r) (hT : ∀ v, T v ↔ T' v) : Atr own sx K A T' q c r :=
  ⟨h.sub, fun v h1 => h.base v ((hT v).2 h1), fun v h1 h2 => h.mine v h1 fun h3 => h2 ((hT v).1 h3), fun v h1 h2 => h.his v h1 fun h3 => h2 ((hT v).1 h3), h.outm, h.outh⟩
theorem Sol.none (h : ∀ v, ¬ K v) : Sol own pri sx K W c p := ⟨fun v hv => absurd hv (h v), fun v hv => absurd hv (h v), fun v hv => absurd hv (h v)⟩
theorem Sol.congrW (h : Sol own pri sx K W' c p) (hW : ∀ v, K v → W v = W' v) : Sol own pri sx K W c p := by
  refine ⟨fun v h1 h2 h3 => ?_, fun v h1 h2 h3 t ht hk => ?_, fun w h1 h2 h3 => ?_⟩
  · obtain ⟨a, b, d⟩ := h.mine v h1 ((hW v h1).symm.trans h2) h3
    exact ⟨a, b, (hW _ b).trans d⟩
  · exact (hW t hk).trans (h.his v h1 ((hW v h1).symm.trans h2) h3 t ht hk)
  · rintro ⟨t, ht, htw⟩
    refine h.cyc w h1 ((hW w h1).symm.trans h2) h3 (Zda ht htw fun a b _ _ e => ?_)
    obtain ⟨⟨e1, e2⟩, e3, e4, e5⟩ := e
    exact ⟨⟨e1, (hW a e1).symm.trans e2⟩, e3, e4, e5⟩
theorem mod2 (x : Int) : x % 2 = 0 ∨ x % 2 = 1 := by omega
open Classical in
theorem zsol {n : Nat} (hown : ∀ v, v < n → own v = 0 ∨ own v = 1) (hpri : ∀ v, v < n → 0 ≤ pri v) : ∀ (k : Nat) (K : Nat → Bool), (∀ v, K v = true → v < n) → cntZ n K ≤ k → Trap sx (fun v => K v = true) →
    (∀ v, K v = true → winZ own pri sx n k K v = 0 ∨ winZ own pri sx n k K v = 1) ∧ ∃ c, Sol own pri sx (fun v => K v = true) (winZ own pri sx n k K) c 0 ∧ Sol own pri sx (fun v => K v = true) (winZ own pri sx n k K) c 1 := by
  intro k
  induction k with
  | zero =>
    intro K hn hc _
    have hno : ∀ v, ¬ K v = true := fun v hv => by have := cnt_pos (hn v hv) hv; omega
    exact ⟨fun v hv => absurd hv (hno v), fun _ => 0, Sol.none hno, Sol.none hno⟩
  | succ k ih =>
    intro K hn hc hK
    by_cases ht : topR pri K n < 0
    · have hno : ∀ v, ¬ K v = true := fun v hv => by
        have h1 := Zix (pri := pri) hv (hn v hv)
        have h2 := hpri v (hn v hv)
        omega
      exact ⟨fun v hv => absurd hv (hno v), fun _ => 0, Sol.none hno, Sol.none hno⟩
    obtain ⟨v0, hv0, hk0, hp0⟩ : ∃ v, v < n ∧ K v = true ∧ pri v = topR pri K n := topR_mem.resolve_left (by omega)
    have hunf : winZ own pri sx n (k + 1) K = fun v => if ∀ u, u < n → Zcd own pri sx n K u = true → winZ own pri sx n k (Zcd own pri sx n K) u = topR pri K n % 2 then topR pri K n % 2
        else if attB own sx K (fun u => Zcd own pri sx n K u && decide (winZ own pri sx n k (Zcd own pri sx n K) u ≠ topR pri K n % 2)) (1 - topR pri K n % 2) v = true then 1 - topR pri K n % 2
        else winZ own pri sx n k (fun u => K u && !attB own sx K (fun u => Zcd own pri sx n K u && decide (winZ own pri sx n k (Zcd own pri sx n K) u ≠ topR pri K n % 2)) (1 - topR pri K n % 2) u) v := by
      funext v
      rw [winZ, if_neg ht]
    rw [hunf]
    clear hunf
    have hTi : ∀ v, topS pri K n v = true ↔ K v = true ∧ pri v = topR pri K n := fun v => by simp [topS]
    have htop : ∀ v, K v = true → pri v ≤ topR pri K n := fun v hv => Zix hv (hn v hv)
    obtain ⟨cA, rA, hA⟩ := Zjf (own := own) (sx := sx) (K := fun v => K v = true) (T := fun v => topS pri K n v = true) (q := topR pri K n % 2) fun v hv => ((hTi v).1 hv).1
    have hRi : ∀ v, Zcd own pri sx n K v = true ↔ K v = true ∧ ¬ Att own sx (fun v => K v = true) (fun v => topS pri K n v = true) (topR pri K n % 2) v := fun v => by
      unfold Zcd
      rw [Bool.and_eq_true, Bool.not_eq_true', ← attB_iff, Bool.not_eq_true]
    have hRf : (fun v => Zcd own pri sx n K v = true) = fun v => K v = true ∧ ¬ Att own sx (fun v => K v = true) (fun v => topS pri K n v = true) (topR pri K n % 2) v := funext fun v => propext (hRi v)
    have hRc : cntZ n (Zcd own pri sx n K) ≤ k := by
      have := Zjq (n := n) (K := K) (K' := Zcd own pri sx n K) (v := v0) (fun u hu => ((hRi u).1 hu).1) hv0 hk0 (by
        rw [Bool.eq_false_iff]
        exact fun h => ((hRi v0).1 h).2 (hA.base v0 ((hTi v0).2 ⟨hk0, hp0⟩)))
      omega
    obtain ⟨hw', c', hS0, hS1⟩ := ih (Zcd own pri sx n K) (fun v hv => hn v ((hRi v).1 hv).1) hRc (by rw [hRf]; exact hA.trap hK)
    rw [hRf] at hS0 hS1
    have hSp : ∀ q, q = 0 ∨ q = 1 → Sol own pri sx (fun v => K v = true ∧ ¬ Att own sx (fun v => K v = true) (fun v => topS pri K n v = true) (topR pri K n % 2) v) (winZ own pri sx n k (Zcd own pri sx n K)) c' q := fun q hq => by rcases hq with rfl | rfl <;> assumption
    clear hS0 hS1
    have hpm := mod2 (topR pri K n)
    generalize hp : topR pri K n % 2 = p at *
    by_cases hall : ∀ u, u < n → Zcd own pri sx n K u = true → winZ own pri sx n k (Zcd own pri sx n K) u = p
    · simp only [if_pos hall]
      have hss : ∀ v, ∃ t, K v = true → t ∈ sx v ∧ K t = true := fun v => by
        by_cases h : K v = true
        · obtain ⟨t, h1, h2⟩ := hK v h; exact ⟨t, fun _ => ⟨h1, h2⟩⟩
        · exact ⟨0, fun h' => absurd h' h⟩
      refine ⟨fun _ _ => hpm, fun v => if Att own sx (fun v => K v = true) (fun v => topS pri K n v = true) p v then (if topS pri K n v = true then Classical.choose (hss v) else cA v) else c' v, ?_⟩
      have key := sol_all (own := own) (pri := pri) (sx := sx) (K := fun v => K v = true) (W := fun _ => p) hp htop hTi (hA.congr (c := fun v => if Att own sx (fun v => K v = true) (fun v => topS pri K n v = true) p v then (if topS pri K n v = true then Classical.choose (hss v) else cA v) else c' v) fun v h1 h2 _ => by rw [if_pos h1, if_neg h2])
        (fun v hv _ => by
          rw [if_pos (hA.base v hv), if_pos hv]
          exact Classical.choose_spec (hss v) ((hTi v).1 hv).1)
        ((hSp p hpm).congr fun v hv _ _ => by rw [if_neg hv.2]) (fun v h1 h2 => hall v (hn v h1) ((hRi v).2 ⟨h1, h2⟩)) fun _ _ => rfl
      rcases hpm with e | e
      · subst e; exact ⟨key.1, key.2 1 (by decide)⟩
      · subst e; exact ⟨key.2 0 (by decide), key.1⟩
    · simp only [if_neg hall]
      generalize hL : (fun u => Zcd own pri sx n K u && decide (winZ own pri sx n k (Zcd own pri sx n K) u ≠ p)) = L at *
      have hLi : ∀ v, L v = true ↔ (K v = true ∧ ¬ Att own sx (fun v => K v = true) (fun v => topS pri K n v = true) p v) ∧ winZ own pri sx n k (Zcd own pri sx n K) v = 1 - p := fun v => by
        rw [← hL]
        simp only [Bool.and_eq_true, hRi, decide_eq_true_eq]
        refine and_congr_right fun h => ?_
        have := hw' v ((hRi v).2 h)
        omega
      have hLf : (fun v => L v = true) = fun v => (K v = true ∧ ¬ Att own sx (fun v => K v = true) (fun v => topS pri K n v = true) p v) ∧ winZ own pri sx n k (Zcd own pri sx n K) v = 1 - p := funext fun v => propext (hLi v)
      obtain ⟨cB, rB, hB⟩ := Zjf (own := own) (sx := sx) (K := fun v => K v = true) (T := fun v => L v = true) (q := 1 - p) fun v hv => ((hLi v).1 hv).1.1
      obtain ⟨u0, hu0, hr0, hn0⟩ : ∃ u, u < n ∧ Zcd own pri sx n K u = true ∧ winZ own pri sx n k (Zcd own pri sx n K) u ≠ p := Classical.byContradiction fun h => hall fun u h1 h2 => Classical.byContradiction fun h3 => h ⟨u, h1, h2, h3⟩
      have hl0 : L u0 = true := by rw [← hL]; simp [hr0, hn0]
      have h2i : ∀ v, (K v && !attB own sx K L (1 - p) v) = true ↔ K v = true ∧ ¬ Att own sx (fun v => K v = true) (fun v => L v = true) (1 - p) v := fun v => by
        rw [Bool.and_eq_true, Bool.not_eq_true', ← attB_iff, Bool.not_eq_true]
      have h2f : (fun v => (K v && !attB own sx K L (1 - p) v) = true) = fun v => K v = true ∧ ¬ Att own sx (fun v => K v = true) (fun v => L v = true) (1 - p) v := funext fun v => propext (h2i v)
      have h2c : cntZ n (fun v => K v && !attB own sx K L (1 - p) v) ≤ k := by
        have := Zjq (n := n) (K := K) (K' := fun v => K v && !attB own sx K L (1 - p) v) (v := u0) (fun u hu => ((h2i u).1 hu).1) hu0 ((hLi u0).1 hl0).1.1 (by
          rw [Bool.eq_false_iff]
          exact fun h => ((h2i u0).1 h).2 (hB.base u0 hl0))
        omega
      obtain ⟨hw2, c2, h20, h21⟩ := ih (fun v => K v && !attB own sx K L (1 - p) v) (fun v hv => hn v ((h2i v).1 hv).1) h2c (by rw [h2f]; exact hB.trap hK)
      rw [h2f] at h20 h21
      have h2p : ∀ q, q = 0 ∨ q = 1 → Sol own pri sx (fun v => K v = true ∧ ¬ Att own sx (fun v => K v = true) (fun v => L v = true) (1 - p) v) (winZ own pri sx n k (fun v => K v && !attB own sx K L (1 - p) v)) c2 q := fun q hq => by rcases hq with rfl | rfl <;> assumption
      have hq1 : 1 - p = 0 ∨ 1 - p = 1 := by omega
      refine ⟨fun v hv => ?_, fun v => if L v = true then c' v else if Att own sx (fun v => K v = true) (fun v => L v = true) (1 - p) v then cB v else c2 v, ?_⟩
      · split
        · exact hq1
        · rename_i h
          exact hw2 v ((h2i v).2 ⟨hv, fun h' => h (attB_iff.2 h')⟩)
      have hnl : ∀ v, ¬ Att own sx (fun v => K v = true) (fun v => L v = true) (1 - p) v → ¬ L v = true := fun v h h' => h (hB.base v h')
      have hB2 := hB.congr (c := fun v => if L v = true then c' v else if Att own sx (fun v => K v = true) (fun v => L v = true) (1 - p) v then cB v else c2 v) fun v h1 h2 _ => by rw [if_neg h2, if_pos h1]
      have hS2 := (hSp (1 - p) hq1).congr (c := fun v => if L v = true then c' v else if Att own sx (fun v => K v = true) (fun v => L v = true) (1 - p) v then cB v else c2 v) fun v h1 h2 _ => by rw [if_pos ((hLi v).2 ⟨h1, h2⟩)]
      have h3 : ∀ q : Int, q = 0 ∨ q = 1 → Sol own pri sx (fun v => K v = true ∧ ¬ Att own sx (fun v => K v = true) (fun v => L v = true) (1 - p) v) (winZ own pri sx n k (fun v => K v && !attB own sx K L (1 - p) v)) (fun v => if L v = true then c' v else if Att own sx (fun v => K v = true) (fun v => L v = true) (1 - p) v then cB v else c2 v) q := fun q hq => (h2p q hq).congr fun v h1 _ _ => by rw [if_neg (hnl v h1.2), if_neg h1.2]
      have key := sol_part (own := own) (pri := pri) (sx := sx) (p := p) (q := 1 - p) (W := fun v => if attB own sx K L (1 - p) v = true then 1 - p else winZ own pri sx n k (fun u => K u && !attB own sx K L (1 - p) u) v) (by omega)
        (fun v hv => by have := hown v (hn v hv); omega) hA hS2 (hB2.congrT hLi) (h3 p hpm) (h3 (1 - p) hq1)
        (fun v hv => if_pos (attB_iff.2 hv)) (fun v hv hb => if_neg fun h => hb (attB_iff.1 h))
      rcases hpm with e | e
      · subst e; exact ⟨key.1, key.2⟩
      · subst e; exact ⟨key.2, key.1⟩
/-! ### There is one solution -/
theorem max_at {f : Nat → Int} : ∀ {L k : Nat}, k < L → ∃ m, k ≤ m ∧ m < L ∧ ∀ j, k ≤ j → j < L → f j ≤ f m
  | 0, k, h => absurd h (Nat.not_lt_zero _)
  | L + 1, k, h => by
    by_cases e : k = L
    · subst e
      exact ⟨k, Nat.le_refl _, by omega, fun j h1 h2 => by rw [show j = k by omega]; exact Int.le_refl _⟩
    · obtain ⟨m, h1, h2, h3⟩ := max_at (f := f) (L := L) (k := k) (by omega)
      by_cases h4 : f m ≤ f L
      · refine ⟨L, by omega, by omega, fun j h5 h6 => ?_⟩
        by_cases h7 : j = L
        · rw [h7]; exact Int.le_refl _
        · have := h3 j h5 (by omega); omega
      · refine ⟨m, h1, by omega, fun j h5 h6 => ?_⟩
        by_cases h7 : j = L
        · rw [h7]; omega
        · exact h3 j h5 (by omega)
theorem cyc_of {F : Nat → Nat} {D : Nat → Prop} {n s : Nat} (hD : ∀ v, D v → v < n ∧ D (F v)) (hs : D s) : ∃ w, D w ∧ ∀ E : Nat → Nat → Prop, (∀ v, D v → E v (F v)) → Cyc E pri w := by
  have hor : ∀ j, D (orb F s j) := fun j => by
    induction j with
    | zero => exact hs
    | succ j ih => exact (hD _ ih).2
  obtain ⟨L, k, ⟨_, hkL, he⟩, _⟩ := again_ex (f := F) (s := s) (n := n) fun j => (hD _ (hor j)).1
  obtain ⟨m, h1, h2, h3⟩ := max_at (f := fun j => pri (orb F s j)) hkL
  refine ⟨orb F s m, hor m, fun E hE => ?_⟩
  have hle : ∀ j, k ≤ j → j ≤ L → pri (orb F s j) ≤ pri (orb F s m) := fun j h4 h5 => by
    by_cases h6 : j = L
    · rw [h6, he]; exact h3 k (Nat.le_refl _) hkL
    · exact h3 j h4 (by omega)
  have hst : ∀ a b, k ≤ a → a ≤ b → b ≤ L → Rch (Low E pri (orb F s m)) (orb F s a) (orb F s b) := fun a b ha hab hb => by
    induction b with
    | zero => rw [show a = 0 by omega]; exact .refl _
    | succ b ih =>
      by_cases h : a = b + 1
      · rw [h]; exact .refl _
      · exact .step (ih (by omega) (by omega)) ⟨hE _ (hor b), hle (b + 1) (by omega) hb⟩
  refine ⟨orb F s (m + 1), ⟨hE _ (hor m), hle (m + 1) (by omega) (by omega)⟩, ?_⟩
  have h4 := hst (m + 1) L (by omega) (by omega) (Nat.le_refl _)
  rw [he] at h4
  exact h4.trans (hst k m (Nat.le_refl _) h1 (by omega))
theorem Zgx {n : Nat} {V : Nat → Int} {d : Nat → Nat} (hn : ∀ v, K v → v < n) (h0 : Sol own pri sx K W c 0) (h1 : Sol own pri sx K V d 1) (hown : ∀ v, K v → own v = 0 ∨ own v = 1) {v : Nat} (hv : K v) (hw : W v = 0) : V v ≠ 1 := fun hv1 => by
  obtain ⟨w, ⟨a1, a2, a3⟩, hc⟩ := cyc_of (pri := pri) (F := fun v => if own v = 0 then c v else d v) (D := fun v => K v ∧ W v = 0 ∧ V v = 1) (n := n) (s := v) (fun u hu => ⟨hn u hu.1, by
    by_cases ho : own u = 0
    · rw [if_pos ho]
      obtain ⟨b1, b2, b3⟩ := h0.mine u hu.1 hu.2.1 ho
      exact ⟨b2, b3, h1.his u hu.1 hu.2.2 (by omega) _ b1 b2⟩
    · rw [if_neg ho]
      obtain ⟨b1, b2, b3⟩ := h1.mine u hu.1 hu.2.2 ((hown u hu.1).resolve_left ho)
      exact ⟨b2, h0.his u hu.1 hu.2.1 ho _ b1 b2, b3⟩⟩) ⟨hv, hw, hv1⟩
  by_cases hp : pri w % 2 = 0
  · refine h1.cyc w a1 a3 (by omega) (hc _ fun u hu => ⟨⟨hu.1, hu.2.2⟩, ?_, fun ho => ?_, fun ho => ?_⟩)
    · by_cases ho : own u = 0
      · rw [if_pos ho]; exact (h0.mine u hu.1 hu.2.1 ho).2.1
      · rw [if_neg ho]; exact (h1.mine u hu.1 hu.2.2 ((hown u hu.1).resolve_left ho)).2.1
    · rw [if_neg (by omega)]
    · have ho : own u = 0 := (hown u hu.1).resolve_right ho
      rw [if_pos ho]; exact (h0.mine u hu.1 hu.2.1 ho).1
  · refine h0.cyc w a1 a2 hp (hc _ fun u hu => ⟨⟨hu.1, hu.2.1⟩, ?_, fun ho => ?_, fun ho => ?_⟩)
    · by_cases ho : own u = 0
      · rw [if_pos ho]; exact (h0.mine u hu.1 hu.2.1 ho).2.1
      · rw [if_neg ho]; exact (h1.mine u hu.1 hu.2.2 ((hown u hu.1).resolve_left ho)).2.1
    · rw [if_pos ho]
    · rw [if_neg ho]; exact (h1.mine u hu.1 hu.2.2 ((hown u hu.1).resolve_left ho)).1
end
open Go Pl
def bF (l : List Bool) (v : Nat) : Bool := l.getD v false
noncomputable def insL (g : Gm) (keep : List Bool) (q : Int) (to : List Bool) : List Bool := (List.range g.own.length).map (attB (fun v => g.own.getD v 0) (rws g.nxt) (bF keep) (bF to) q)
noncomputable def insS : Spec
  | [.agg (.cons (.roI o) (.cons (.roI p) (.cons (.roII x) .nil))), .roB keep, .int .i64 q, .roB to] => some ⟨Zbc ⟨o, p, x⟩ = true ∧ keep.length = o.length ∧ to.length = o.length, .roB (insL ⟨o, p, x⟩ keep q to), none⟩
  | _ => none
def smB (keep l : List Bool) (row : List Int) (j : Nat) : Bool := (row.take j).any fun t => keep.getD t.toNat false && l.getD t.toNat false
def alB (keep l : List Bool) (row : List Int) (j : Nat) : Bool := (row.take j).all fun t => !keep.getD t.toNat false || l.getD t.toNat false
theorem smB_next {keep l : List Bool} {row : List Int} {j : Nat} (h : j < row.length) : smB keep l row (j + 1) = (smB keep l row j || keep.getD (row.getD j 0).toNat false && l.getD (row.getD j 0).toNat false) := by
  unfold smB
  rw [Zhb (d := 0) h, List.any_append]; simp
theorem alB_next {keep l : List Bool} {row : List Int} {j : Nat} (h : j < row.length) : alB keep l row (j + 1) = (alB keep l row j && (!keep.getD (row.getD j 0).toNat false || l.getD (row.getD j 0).toNat false)) := by
  unfold alB
  rw [Zhb (d := 0) h, List.all_append]; simp
def tkB (g : Gm) (keep : List Bool) (q : Int) (l : List Bool) (v : Nat) : Bool := decide (g.own.getD v 0 = q) && smB keep l (g.nxt.getD v []) (g.nxt.getD v []).length || !decide (g.own.getD v 0 = q) && alB keep l (g.nxt.getD v []) (g.nxt.getD v []).length
theorem smB_iff {g : Gm} {keep l : List Bool} {v : Nat} : smB keep l (g.nxt.getD v []) (g.nxt.getD v []).length = true ↔ ∃ t, t ∈ rws g.nxt v ∧ keep.getD t false = true ∧ l.getD t false = true := by
  unfold smB rws
  rw [List.take_length, List.any_eq_true]
  constructor
  · rintro ⟨t, h1, h2⟩
    rw [Bool.and_eq_true] at h2
    exact ⟨t.toNat, List.mem_map.2 ⟨t, h1, rfl⟩, h2.1, h2.2⟩
  · rintro ⟨t, h1, h2, h3⟩
    obtain ⟨s, h4, rfl⟩ := List.mem_map.1 h1
    exact ⟨s, h4, by rw [h2, h3]; rfl⟩
theorem alB_iff {g : Gm} {keep l : List Bool} {v : Nat} : alB keep l (g.nxt.getD v []) (g.nxt.getD v []).length = true ↔ ∀ t, t ∈ rws g.nxt v → keep.getD t false = true → l.getD t false = true := by
  unfold alB rws
  rw [List.take_length, List.all_eq_true]
  constructor
  · intro h t h1 h2
    obtain ⟨s, h4, rfl⟩ := List.mem_map.1 h1
    have := h s h4
    rw [h2] at this; simpa using this
  · intro h t h1
    cases h2 : keep.getD t.toNat false with
    | false => rfl
    | true => rw [h t.toNat (List.mem_map.2 ⟨t, h1, rfl⟩) h2]; rfl
theorem tk_att {g : Gm} {keep to l : List Bool} {q : Int} {v : Nat} (hk : keep.getD v false = true) (hl : ∀ t, l.getD t false = true → attB (fun v => g.own.getD v 0) (rws g.nxt) (bF keep) (bF to) q t = true) (h : tkB g keep q l v = true) : attB (fun v => g.own.getD v 0) (rws g.nxt) (bF keep) (bF to) q v = true := by
  unfold tkB at h
  rw [Bool.or_eq_true, Bool.and_eq_true, Bool.and_eq_true, decide_eq_true_eq, Bool.not_eq_true', decide_eq_false_iff_not] at h
  obtain ⟨c, r, hA⟩ := Zjf (own := fun v => g.own.getD v 0) (sx := rws g.nxt) (K := fun v => bF keep v = true) (T := fun v => bF to v = true ∧ bF keep v = true) (q := q) fun v hv => hv.2
  rw [attB_iff]
  have hl' := fun t ht => attB_iff.1 (hl t ht)
  rcases h with ⟨h1, h2⟩ | ⟨h1, h2⟩
  · obtain ⟨t, h3, h4, h5⟩ := smB_iff.1 h2
    obtain ⟨k, h6⟩ := hl' t h5
    exact ⟨k + 1, .inr (.inl ⟨hk, h1, t, h3, h4, h6⟩)⟩
  · obtain ⟨k, h6⟩ := Zi6 (own := fun v => g.own.getD v 0) (sx := rws g.nxt) (K := fun v => bF keep v = true) (T := fun v => bF to v = true) (q := q) (v := v) (l := rws g.nxt v) fun t ht hkt => hl' t (alB_iff.1 h2 t ht hkt)
    exact ⟨k + 1, .inr (.inr ⟨hk, h1, h6⟩)⟩
theorem ins_eq {g : Gm} {keep to l : List Bool} {q : Int} (hll : l.length = g.own.length) (hkl : keep.length = g.own.length) (hto : ∀ v, to.getD v false = true → l.getD v false = true) (hl : ∀ t, l.getD t false = true → attB (fun v => g.own.getD v 0) (rws g.nxt) (bF keep) (bF to) q t = true)
    (hc : ∀ v, v < g.own.length → keep.getD v false = true → l.getD v false = false → tkB g keep q l v = false) : l = insL g keep q to := by
  have hkn : ∀ v, bF keep v = true → v < g.own.length := fun v hv => by
    refine Nat.lt_of_not_le fun h => ?_
    unfold bF at hv
    rw [List.getD_eq_getElem?_getD, List.getElem?_eq_none (by omega)] at hv
    cases hv
  have hatt : ∀ v, Att (fun v => g.own.getD v 0) (rws g.nxt) (fun v => bF keep v = true) (fun v => bF to v = true) q v → l.getD v false = true := fun v hv => by
    refine att_least (X := fun v => l.getD v false = true) (fun v h => hto v h) (fun v t h1 h2 h3 h4 h5 => ?_) (fun v h1 h2 h3 => ?_) hv
    · refine Classical.byContradiction fun hn => ?_
      have h : l.getD v false = false := by simpa using hn
      have h6 := hc v (hkn v h1) h1 h
      have h7 := smB_iff.2 ⟨t, h3, h4, h5⟩
      have h2 : g.own.getD v 0 = q := h2
      unfold tkB at h6
      rw [h7, decide_eq_true h2] at h6
      cases h6
    · refine Classical.byContradiction fun hn => ?_
      have h : l.getD v false = false := by simpa using hn
      have h6 := hc v (hkn v h1) h1 h
      have h7 := alB_iff.2 h3
      have h2 : ¬ g.own.getD v 0 = q := h2
      unfold tkB at h6
      rw [h7, decide_eq_false h2] at h6
      cases h6
  refine List.ext_getElem (by simp [insL, hll]) fun v h1 h2 => ?_
  have e1 : l[v] = l.getD v false := by rw [List.getD_eq_getElem?_getD, List.getElem?_eq_getElem h1]; rfl
  have e2 : (insL g keep q to)[v] = attB (fun v => g.own.getD v 0) (rws g.nxt) (bF keep) (bF to) q v := by simp [insL]
  rw [e1, e2, Bool.eq_iff_iff]
  exact ⟨hl v, fun h => hatt v (attB_iff.1 h)⟩
structure IsI (g : Gm) (keep to : List Bool) (q : Int) (l : List Bool) : Prop where
  len : l.length = g.own.length
  sub : ∀ v, to.getD v false = true → l.getD v false = true
  att : ∀ t, l.getD t false = true → attB (fun v => g.own.getD v 0) (rws g.nxt) (bF keep) (bF to) q t = true
structure IsS where
  l : List Bool
  more : Bool
structure IsJ where
  l : List Bool
  more : Bool
  i : Nat
def b01 (b : Bool) : Nat := if b then 1 else 0
theorem IsI_set {g : Gm} {keep to l : List Bool} {q : Int} {v : Nat} (h : IsI g keep to q l) (hv : v < g.own.length) (hk : keep.getD v false = true) (ht : tkB g keep q l v = true) : IsI g keep to q (l.set v true) := by
  have hg : ∀ u, (l.set v true).getD u false = if u = v then true else l.getD u false := fun u => Zdl (by rw [h.len]; exact hv)
  refine ⟨by rw [List.length_set]; exact h.len, fun u hu => ?_, fun u hu => ?_⟩
  · rw [hg]; split
    · rfl
    · exact h.sub u hu
  · rw [hg] at hu
    by_cases e : u = v
    · subst e; exact tk_att hk h.att ht
    · rw [if_neg e] at hu; exact h.att u hu
set_option maxRecDepth 4000 in
set_option maxHeartbeats 4000000 in
theorem inside_ok : Zb2 Try.prog 55 insS := by
  refine Za3 htb (fn := Try.f55) (by kernel_rfl) (by kernel_rfl) rfl (fun args r hS => ?_) (fun args r hS hob hl => ?_)
  · unfold insS at hS; split at hS <;> first | (cases hS; done) | (cases hS; exact Nat.le_of_ble_eq_true rfl)
  unfold insS at hS
  split at hS
  case h_2 => cases hS
  rename_i o p x keep q to
  simp only [Option.some.injEq] at hS
  subst hS
  simp only [lenP, mkL, lim] at hl
  dsimp only at hob
  obtain ⟨hv, hkl, htl⟩ := hob
  have hV := validB_iff.1 hv
  obtain ⟨hn, hpl, hxl, hpos⟩ := id hV
  simp only [Gm.n] at hn hpl hxl
  have hrl : ∀ v, v < o.length → (x.getD v []).length ≤ 64 := fun v h => by
    obtain ⟨⟨a1, a2, a3, a4, _, a6⟩, _⟩ := hpos v (by simp only [Gm.n]; omega)
    exact a6
  have hrb : ∀ v, v < o.length → ∀ j, j < (x.getD v []).length → 0 ≤ (x.getD v []).getD j 0 ∧ (x.getD v []).getD j 0 < o.length := fun v h j hj => by
    obtain ⟨_, hr⟩ := hpos v (by simp only [Gm.n]; omega)
    exact ⟨(hr j hj).1, (hr j hj).2.1⟩
  repeat' first
    | with_reducible first | apply Zan | apply Zaj | apply Zab | apply Zac | apply Zag | apply Zal | apply Zaf | apply Zah | apply Zam | apply Zao | apply Zak
    | ((with_reducible refine Zap ?_); refine Zai rfl ?_ ?_ <;> intro hb <;> (try simp only [zH] at hb)) | ((with_reducible refine Zaq 1 ?_ ?_); (· exact rfl); (first | refine Zad htb hmz noSp fF rfl rfl ?_ | refine Zae hmo htb hmz noSp fF rfl rfl (by kernel_rfl) ?_); intro _ _ _ _ h; simp only [zE, evp, evx, ev1, evLoad, evStore, evBin, Zaa, forall_const, z38, tb, reduceAdd, reduceSub, reduceMul, reduceEqDiff, reduceLeDiff, reduceLT, Nat.reduceBEq, Nat.reduceBNe, ↓reduceIte, reduceIte] at h; obtain ⟨rfl, rfl, rfl, rfl⟩ := h; refine ⟨?_, ?_⟩) | ((with_reducible refine Ob.mk ?_); first | exact trivial | (intros; omega) | ((repeat' first | apply And.intro | (intro a; have b := a; try simp only [zH] at b)) <;> first | assumption | omega | (simp only [zH]; omega)))
  (refine Zad htb hmz noSp (fun i => Nat.beq i 0) rfl rfl ?_; intro _ _ _ _ h; simp only [zE, evp, evx, ev1, evLoad, evStore, evBin, Zaa, forall_const, z38, tb, reduceAdd, reduceSub, reduceMul, reduceEqDiff, reduceLeDiff, reduceLT, Nat.reduceBEq, Nat.reduceBNe, ↓reduceIte, reduceIte] at h; obtain ⟨rfl, rfl, rfl, rfl⟩ := h; refine ⟨?_, ?_⟩)
  · first | ((with_reducible refine Ob.mk ?_); first | exact trivial | (intros; omega) | ((repeat' first | apply And.intro | (intro a; have b := a; try simp only [zH] at b)) <;> first | assumption | omega | (simp only [zH]; omega))) | skip
  repeat' first
    | with_reducible first | apply Zan | apply Zaj | apply Zab | apply Zac | apply Zag | apply Zal | apply Zaf | apply Zah | apply Zam | apply Zao | apply Zak
    | ((with_reducible refine Zap ?_); refine Zai rfl ?_ ?_ <;> intro hb <;> (try simp only [zH] at hb)) | ((with_reducible refine Zax ?_); (first | refine Zad htb hmz noSp fF rfl rfl ?_ | refine Zae hmo htb hmz noSp fF rfl rfl (by kernel_rfl) ?_); intro _ _ _ _ h; simp only [zE, evp, evx, ev1, evLoad, evStore, evBin, Zaa, forall_const, z38, tb, reduceAdd, reduceSub, reduceMul, reduceEqDiff, reduceLeDiff, reduceLT, Nat.reduceBEq, Nat.reduceBNe, ↓reduceIte, reduceIte] at h; obtain ⟨rfl, rfl, rfl, rfl⟩ := h; refine ⟨?_, ?_⟩) | ((with_reducible refine Ob.mk ?_); first | exact trivial | (intros; omega) | ((repeat' first | apply And.intro | (intro a; have b := a; try simp only [zH] at b)) <;> first | assumption | omega | (simp only [zH]; omega)))
  refine Zat (τ := IsS) (fun s => IsI ⟨o, p, x⟩ keep to q s.l ∧ (s.more = false → ∀ v, v < o.length → keep.getD v false = true → s.l.getD v false = false → tkB ⟨o, p, x⟩ keep q s.l v = false)) (fun s => ⟨7, [(10, .bool s.more), (9, .own 4), (4, (.rop (.agg (.cons (.roI o) (.cons (.roI p) (.cons (.roII x) .nil)))))), (1, .roB keep), (2, .int .i64 q)], [(4, some (.bools s.l))], []⟩) (fun s => s.l.count false + b01 s.more) ⟨to, true⟩ [] ?_ ⟨⟨htl, fun v h => h, fun t ht => attB_iff.2 ⟨0, ht⟩⟩, fun h => by cases h⟩ ?_
  · (refine ⟨rfl, ?_, ?_⟩ <;> simp only [zE, evp, evx, ev1, evLoad, evStore, evBin, Zaa, forall_const, z38, tb, reduceAdd, reduceSub, reduceMul, reduceEqDiff, reduceLeDiff, reduceLT, Nat.reduceBEq, Nat.reduceBNe, ↓reduceIte, reduceIte, zI])
  rintro ⟨l, more⟩ ⟨hI, hm⟩
  have hll := hI.len
  simp only [Gm.n] at hll hI hm
  dsimp only at hll hI hm ⊢
  repeat' first
    | with_reducible first | apply Zan | apply Zaj | apply Zab | apply Zac | apply Zag | apply Zal | apply Zaf | apply Zah | apply Zam | apply Zao | apply Zak
    | ((with_reducible refine Zap ?_); refine Zai rfl ?_ ?_ <;> intro hb <;> (try simp only [zH] at hb)) | ((with_reducible refine Zaq 20 ?_ ?_); (· exact rfl); (first | refine Zad htb hmz noSp fF rfl rfl ?_ | refine Zae hmo htb hmz noSp fF rfl rfl (by kernel_rfl) ?_); intro _ _ _ _ h; simp only [zE, evp, evx, ev1, evLoad, evStore, evBin, Zaa, forall_const, z38, tb, reduceAdd, reduceSub, reduceMul, reduceEqDiff, reduceLeDiff, reduceLT, Nat.reduceBEq, Nat.reduceBNe, ↓reduceIte, reduceIte] at h; obtain ⟨rfl, rfl, rfl, rfl⟩ := h; refine ⟨?_, ?_⟩) | ((with_reducible refine Ob.mk ?_); first | exact trivial | (intros; omega) | ((repeat' first | apply And.intro | (intro a; have b := a; try simp only [zH] at b)) <;> first | assumption | omega | (simp only [zH]; omega)))
  · have hmt : more = true := hb
    refine Zat (τ := IsJ) (fun t => t.i ≤ o.length ∧ IsI ⟨o, p, x⟩ keep to q t.l ∧ (t.more = false → t.l = l ∧ ∀ v, v < t.i → keep.getD v false = true → t.l.getD v false = false → tkB ⟨o, p, x⟩ keep q t.l v = false) ∧ (t.more = true → t.l.count false < l.count false)) (fun t => ⟨12, [(23, .int .i64 t.i), (22, .int .i64 keep.length), (21, .roB keep), (10, .bool t.more), (9, .own 4), (4, (.rop (.agg (.cons (.roI o) (.cons (.roI p) (.cons (.roII x) .nil)))))), (1, .roB keep), (2, .int .i64 q)], [(4, some (.bools t.l))], []⟩) (fun t => o.length - t.i) ⟨l, false, 0⟩ [] ?_ ⟨Nat.zero_le _, hI, fun _ => ⟨rfl, fun v hv => absurd hv (Nat.not_lt_zero v)⟩, fun h => by cases h⟩ ?_
    · (refine ⟨rfl, ?_, ?_⟩ <;> simp only [zE, evp, evx, ev1, evLoad, evStore, evBin, Zaa, forall_const, z38, tb, reduceAdd, reduceSub, reduceMul, reduceEqDiff, reduceLeDiff, reduceLT, Nat.reduceBEq, Nat.reduceBNe, ↓reduceIte, reduceIte, zI])
    rintro ⟨l2, more2, i⟩ ⟨hi, hI2, hn2, hm2⟩
    have hll2 := hI2.len
    simp only [Gm.n] at hll2 hI2 hn2
    dsimp only at hll2 hI2 hn2 hm2 hi ⊢
    repeat' first
      | with_reducible first | apply Zan | apply Zaj | apply Zab | apply Zac | apply Zag | apply Zal | apply Zaf | apply Zah | apply Zam | apply Zao | apply Zak
      | ((with_reducible refine Zap ?_); refine Zai rfl ?_ ?_ <;> intro hb <;> (try simp only [zH] at hb)) | ((with_reducible refine Zaq 9 ?_ ?_); (· exact rfl); (first | refine Zad htb hmz noSp fF rfl rfl ?_ | refine Zae hmo htb hmz noSp fF rfl rfl (by kernel_rfl) ?_); intro _ _ _ _ h; simp only [zE, evp, evx, ev1, evLoad, evStore, evBin, Zaa, forall_const, z38, tb, reduceAdd, reduceSub, reduceMul, reduceEqDiff, reduceLeDiff, reduceLT, Nat.reduceBEq, Nat.reduceBNe, ↓reduceIte, reduceIte] at h; obtain ⟨rfl, rfl, rfl, rfl⟩ := h; refine ⟨?_, ?_⟩) | ((with_reducible refine Ob.mk ?_); first | exact trivial | (intros; omega) | ((repeat' first | apply And.intro | (intro a; have b := a; try simp only [zH] at b)) <;> first | assumption | omega | (simp only [zH]; omega)))
    · refine back ⟨l2, more2, i + 1⟩ [] ?_ ⟨by dsimp only; omega, hI2, fun h => ⟨(hn2 h).1, fun v hv hk hl => ?_⟩, hm2⟩ (by dsimp only; omega)
      · (refine ⟨rfl, ?_, ?_⟩ <;> simp only [zE, evp, evx, ev1, evLoad, evStore, evBin, Zaa, forall_const, z38, tb, reduceAdd, reduceSub, reduceMul, reduceEqDiff, reduceLeDiff, reduceLT, Nat.reduceBEq, Nat.reduceBNe, ↓reduceIte, reduceIte, zI])
      · rcases Nat.lt_succ_iff_lt_or_eq.1 hv with h1 | rfl
        · exact (hn2 h).2 v h1 hk hl
        · rcases hb with h1 | h1
          · rw [h1] at hk; cases hk
          · rw [h1] at hl; cases hl
    · obtain ⟨hbk, hbl⟩ := hb
      have hio : i < o.length := by omega
      have hrl1 := hrl i hio
      have hrb1 := hrb i hio
      have hsm : ∀ j, j < (x.getD i []).length → smB keep l2 (x.getD i []) (j + 1) = (smB keep l2 (x.getD i []) j || keep.getD ((x.getD i []).getD j 0).toNat false && l2.getD ((x.getD i []).getD j 0).toNat false) := fun j hj => smB_next hj
      have hal : ∀ j, j < (x.getD i []).length → alB keep l2 (x.getD i []) (j + 1) = (alB keep l2 (x.getD i []) j && (!keep.getD ((x.getD i []).getD j 0).toNat false || l2.getD ((x.getD i []).getD j 0).toNat false)) := fun j hj => alB_next hj
      have hs0 : smB keep l2 (x.getD i []) 0 = false := rfl
      have ha0 : alB keep l2 (x.getD i []) 0 = true := rfl
      have htk : tkB ⟨o, p, x⟩ keep q l2 i = (decide (o.getD i 0 = q) && smB keep l2 (x.getD i []) (x.getD i []).length || !decide (o.getD i 0 = q) && alB keep l2 (x.getD i []) (x.getD i []).length) := rfl
      repeat' first
        | with_reducible first | apply Zan | apply Zaj | apply Zab | apply Zac | apply Zag | apply Zal | apply Zaf | apply Zah | apply Zam | apply Zao | apply Zak
        | ((with_reducible refine Zap ?_); refine Zai rfl ?_ ?_ <;> intro hb <;> (try simp only [zH] at hb)) | ((with_reducible refine Zax ?_); (first | refine Zad htb hmz noSp fF rfl rfl ?_ | refine Zae hmo htb hmz noSp fF rfl rfl (by kernel_rfl) ?_); intro _ _ _ _ h; simp only [zE, evp, evx, ev1, evLoad, evStore, evBin, Zaa, forall_const, z38, tb, reduceAdd, reduceSub, reduceMul, reduceEqDiff, reduceLeDiff, reduceLT, Nat.reduceBEq, Nat.reduceBNe, ↓reduceIte, reduceIte] at h; obtain ⟨rfl, rfl, rfl, rfl⟩ := h; refine ⟨?_, ?_⟩) | ((with_reducible refine Ob.mk ?_); first | exact trivial | (intros; omega) | ((repeat' first | apply And.intro | (intro a; have b := a; try simp only [zH] at b)) <;> first | assumption | omega | (simp only [zH]; omega)))
      generalize smB keep l2 (x.getD i []) = sm at *
      generalize alB keep l2 (x.getD i []) = al at *
      generalize x.getD i [] = rw at *
      refine Zat (τ := Nat) (fun j => j ≤ rw.length) (fun j => ⟨36, [(42, .int .i64 j), (41, .int .i64 rw.length), (40, .roI rw), (14, .bool (al j)), (13, .bool (sm j)), (11, .int .i64 i), (23, .int .i64 i), (22, .int .i64 keep.length), (21, .roB keep), (10, .bool more2), (9, .own 4), (4, (.rop (.agg (.cons (.roI o) (.cons (.roI p) (.cons (.roII x) .nil)))))), (1, .roB keep), (2, .int .i64 q)], [(4, some (.bools l2))], []⟩) (fun j => rw.length - j) 0 [] ?_ (Nat.zero_le _) ?_
      · (refine ⟨rfl, ?_, ?_⟩ <;> simp only [zE, evp, evx, ev1, evLoad, evStore, evBin, Zaa, forall_const, z38, tb, reduceAdd, reduceSub, reduceMul, reduceEqDiff, reduceLeDiff, reduceLT, Nat.reduceBEq, Nat.reduceBNe, ↓reduceIte, reduceIte, zI])
        exact ⟨ha0, hs0⟩
      intro j hj
      have hsm1 := hsm j
      have hal1 := hal j
      have hrb2 := hrb1 j
      clear hsm hal hrb1
      repeat' first
        | with_reducible first | apply Zan | apply Zaj | apply Zab | apply Zac | apply Zag | apply Zal | apply Zaf | apply Zah | apply Zam | apply Zao | apply Zak
        | ((with_reducible refine Zap ?_); refine Zai rfl ?_ ?_ <;> intro hb <;> (try simp only [zH] at hb)) | ((with_reducible refine Zax ?_); (first | refine Zad htb hmz noSp fF rfl rfl ?_ | refine Zae hmo htb hmz noSp fF rfl rfl (by kernel_rfl) ?_); intro _ _ _ _ h; simp only [zE, evp, evx, ev1, evLoad, evStore, evBin, Zaa, forall_const, z38, tb, reduceAdd, reduceSub, reduceMul, reduceEqDiff, reduceLeDiff, reduceLT, Nat.reduceBEq, Nat.reduceBNe, ↓reduceIte, reduceIte] at h; obtain ⟨rfl, rfl, rfl, rfl⟩ := h; refine ⟨?_, ?_⟩) | ((with_reducible refine Ob.mk ?_); first | exact trivial | (intros; omega) | ((repeat' first | apply And.intro | (intro a; have b := a; try simp only [zH] at b)) <;> first | assumption | omega | (simp only [zH]; omega)))
      · refine back (j + 1) [] ?_ (by omega) (by omega)
        (refine ⟨rfl, ?_, ?_⟩ <;> simp only [zE, evp, evx, ev1, evLoad, evStore, evBin, Zaa, forall_const, z38, tb, reduceAdd, reduceSub, reduceMul, reduceEqDiff, reduceLeDiff, reduceLT, Nat.reduceBEq, Nat.reduceBNe, ↓reduceIte, reduceIte, zI])
        rw [hsm1 (by omega), hal1 (by omega), hb]
        simp
      · refine back (j + 1) [] ?_ (by omega) (by omega)
        (refine ⟨rfl, ?_, ?_⟩ <;> simp only [zE, evp, evx, ev1, evLoad, evStore, evBin, Zaa, forall_const, z38, tb, reduceAdd, reduceSub, reduceMul, reduceEqDiff, reduceLeDiff, reduceLT, Nat.reduceBEq, Nat.reduceBNe, ↓reduceIte, reduceIte, zI])
        rw [hsm1 (by omega), hal1 (by omega), hb]
        simp
      · have hje : j = rw.length := by omega
        subst hje
        have ht : tkB ⟨o, p, x⟩ keep q l2 i = true := by
          rw [htk]; rcases hb with ⟨h1, h2⟩ | ⟨h1, h2⟩ <;> simp only [h1, h2, decide_true, decide_false, Bool.and_self, Bool.true_or, Bool.or_true, Bool.false_and, Bool.not_false, Bool.not_true, Bool.and_true, Bool.false_or]
        have hcf := Zjr (l := l2) (t := i) (by omega) hbl
        refine back ⟨l2.set i true, true, i + 1⟩ [] ?_ ⟨by dsimp only; omega, IsI_set hI2 hio hbk ht, (fun h => by cases h), fun _ => ?_⟩ (by dsimp only; omega)
        · (refine ⟨rfl, ?_, ?_⟩ <;> simp only [zE, evp, evx, ev1, evLoad, evStore, evBin, Zaa, forall_const, z38, tb, reduceAdd, reduceSub, reduceMul, reduceEqDiff, reduceLeDiff, reduceLT, Nat.reduceBEq, Nat.reduceBNe, ↓reduceIte, reduceIte, zI])
        · dsimp only
          cases more2 with
          | true => have := hm2 rfl; omega
          | false => obtain ⟨e, _⟩ := hn2 rfl; rw [← e]; omega
      · have hje : j = rw.length := by omega
        subst hje
        have ht : tkB ⟨o, p, x⟩ keep q l2 i = false := by
          rw [htk]
          simp only [Bool.or_eq_false_iff, Bool.and_eq_false_iff, decide_eq_false_iff_not, Bool.not_eq_false', decide_eq_true_eq]
          exact hb
        refine back ⟨l2, more2, i + 1⟩ [] ?_ ⟨by dsimp only; omega, hI2, fun h => ⟨(hn2 h).1, fun v hv hk hl => ?_⟩, hm2⟩ (by dsimp only; omega)
        · (refine ⟨rfl, ?_, ?_⟩ <;> simp only [zE, evp, evx, ev1, evLoad, evStore, evBin, Zaa, forall_const, z38, tb, reduceAdd, reduceSub, reduceMul, reduceEqDiff, reduceLeDiff, reduceLT, Nat.reduceBEq, Nat.reduceBNe, ↓reduceIte, reduceIte, zI])
        · rcases Nat.lt_succ_iff_lt_or_eq.1 hv with h1 | rfl
          · exact (hn2 h).2 v h1 hk hl
          · exact ht
    · refine back ⟨l2, more2⟩ [] ?_ ⟨hI2, fun h v hv => (hn2 h).2 v (by omega)⟩ ?_
      · (refine ⟨rfl, ?_, ?_⟩ <;> simp only [zE, evp, evx, ev1, evLoad, evStore, evBin, Zaa, forall_const, z38, tb, reduceAdd, reduceSub, reduceMul, reduceEqDiff, reduceLeDiff, reduceLT, Nat.reduceBEq, Nat.reduceBNe, ↓reduceIte, reduceIte, zI])
      · dsimp only
        cases more2 with
        | true => have := hm2 rfl; unfold b01; split <;> simp <;> omega
        | false => obtain ⟨e, _⟩ := hn2 rfl; rw [e, hmt]; exact Nat.lt_succ_self _
  refine Zbi 4 (.roB l) (by simp only [Zar, Zaw, fzE, fzA, fzR, fzB, set1, nbeq, reduceEqDiff, decide_true, decide_false, ↓reduceIte, reduceIte, cond_true, cond_false, List.take_length, Option.some.injEq]; rfl) (by first | exact rfl | (refine ⟨?_, rfl⟩; first | rfl | (intros; rfl))) (by simp only [Zar, Zaw, fzE, fzA, fzR, fzB, set1, nbeq, reduceEqDiff, decide_true, decide_false, ↓reduceIte, reduceIte, cond_true, cond_false, List.take_length, Option.some.injEq]; rfl) (by simp only [Zar, Zaw, fzE, fzA, fzR, fzB, set1, nbeq, reduceEqDiff, decide_true, decide_false, ↓reduceIte, reduceIte, cond_true, cond_false, List.take_length, Option.some.injEq]; rfl) ?_
  repeat' first
    | with_reducible first | apply Zan | apply Zaj | apply Zab | apply Zac | apply Zag | apply Zal | apply Zaf | apply Zah | apply Zam | apply Zao | apply Zak
    | ((with_reducible refine Zap ?_); refine Zai rfl ?_ ?_ <;> intro hb <;> (try simp only [zH] at hb)) | ((with_reducible refine Zax ?_); (first | refine Zad htb hmz noSp fF rfl rfl ?_ | refine Zae hmo htb hmz noSp fF rfl rfl (by kernel_rfl) ?_); intro _ _ _ _ h; simp only [zE, evp, evx, ev1, evLoad, evStore, evBin, Zaa, forall_const, z38, tb, reduceAdd, reduceSub, reduceMul, reduceEqDiff, reduceLeDiff, reduceLT, Nat.reduceBEq, Nat.reduceBNe, ↓reduceIte, reduceIte] at h; obtain ⟨rfl, rfl, rfl, rfl⟩ := h; refine ⟨?_, ?_⟩) | ((with_reducible refine Ob.mk ?_); first | exact trivial | (intros; omega) | ((repeat' first | apply And.intro | (intro a; have b := a; try simp only [zH] at b)) <;> first | assumption | omega | (simp only [zH]; omega)))
  refine Zav rfl rfl (Zas rfl ?_ rfl)
  subst hb
  rw [ins_eq (g := ⟨o, p, x⟩) hll hkl hI.sub hI.att (hm rfl)]
  rfl
end Go.Proofs.Ytbcghiagomkadaa.Cal
