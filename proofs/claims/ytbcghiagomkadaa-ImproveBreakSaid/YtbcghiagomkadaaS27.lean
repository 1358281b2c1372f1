/- Own texts of the proof, merged, in order. -/
import Derived.Test.YtbcghiagomkadaaS26
set_option linter.unusedVariables false
set_option linter.unusedSimpArgs false
namespace Go.Proofs.Ytbcghiagomkadaa.Cal
open Go Pl
/-- A checked strategy in a game. -/
structure HeldOK (o p : List Int) (x : List (List Int)) (pl : Int) (c : List Int) : Prop where
  n : o.length ≤ 20000
  plen : p.length = o.length
  p0 : ∀ v, v < o.length → 0 ≤ p.getD v 0
  xl : x.length = o.length
  cl : ∀ v, v < o.length → o.getD v 0 = pl → v < c.length
  row : ∀ v, v < o.length → (nxF ⟨o, p, x⟩ c pl v).length ≤ 64 ∧ ∀ j, j < (nxF ⟨o, p, x⟩ c pl v).length → 0 ≤ (nxF ⟨o, p, x⟩ c pl v).getD j 0 ∧ (nxF ⟨o, p, x⟩ c pl v).getD j 0 < (o.length : Int)
/-- The rows that are left. -/
def nxY (o : List Int) (x : List (List Int)) (pl : Int) (c : List Int) : List (List Int) := (List.range o.length).map fun v => nxF ⟨o, [], x⟩ c pl v
theorem nxY_get {o : List Int} {x : List (List Int)} {pl : Int} {c : List Int} {v : Nat} (hv : v < o.length) : (nxY o x pl c).getD v [] = nxF ⟨o, [], x⟩ c pl v := by
  simp [nxY, List.getD_eq_getElem?_getD, hv]
theorem nxY_len {o : List Int} {x : List (List Int)} {pl : Int} {c : List Int} : (nxY o x pl c).length = o.length := by simp [nxY]
noncomputable def wnB (o p : List Int) (x : List (List Int)) (pl : Int) (c : List Int) : List Bool := wnX (fun a b => b ∈ nxN o x pl c a) o.length (kp (bdK o p x pl c) o.length) (kp (bdK o p x pl c) o.length).length
noncomputable def winhS : Spec
  | [.agg (.cons (.roI o) (.cons (.roI p) (.cons (.roII x) (.cons (.int .i64 pl) (.cons (.roI c) .nil)))))] => some ⟨HeldOK o p x pl c, .roB (wnB o p x pl c), none⟩
  | _ => none
noncomputable def spWh : Nat → Option Spec
  | 47 => some nxtS
  | 39 => some badS
  | _ => none
theorem Zbb : SpOK Try.prog spWh := by
  intro f S h
  unfold spWh at h
  split at h
  · cases h; exact next_ok
  · cases h; exact bad_ok
  · cases h
theorem bkI_in {y : List (List Int)} {t : Nat} {z : Int} : ∀ {i : Nat}, z ∈ bkI y t i ↔ ∃ v : Nat, v < i ∧ z = v ∧ (t : Int) ∈ y.getD v []
  | 0 => by
    constructor
    · intro h; cases h
    · rintro ⟨v, h, _⟩; omega
  | i + 1 => by
    show z ∈ bkI y t i ++ List.replicate _ _ ↔ _
    rw [List.mem_append, bkI_in (i := i), List.mem_replicate]
    constructor
    · rintro (⟨v, h1, h2, h3⟩ | ⟨h1, h2⟩)
      · exact ⟨v, by omega, h2, h3⟩
      · exact ⟨i, by omega, h2, List.count_pos_iff.1 (by omega)⟩
    · rintro ⟨v, h1, h2, h3⟩
      rcases Nat.lt_succ_iff_lt_or_eq.1 h1 with h4 | rfl
      · exact .inl ⟨v, h4, h2, h3⟩
      · exact .inr ⟨by have := List.count_pos_iff.2 h3; omega, h2⟩
structure WnS where
  O : List Bool
  Q : List Nat
set_option maxRecDepth 4000 in
set_option maxHeartbeats 4000000 in
theorem winh_ok : FSpec Try.prog 30 winhS := by
  refine Zba htb (fn := Try.f30) (by kernel_rfl) (by kernel_rfl) rfl (fun args r hS => ?_) (fun args r hS hob hl => ?_)
  · unfold winhS at hS; split at hS <;> first | (cases hS; done) | (cases hS; exact Nat.le_of_ble_eq_true rfl)
  unfold winhS at hS
  split at hS
  case h_2 => cases hS
  rename_i o p x pl c
  simp only [Option.some.injEq] at hS
  subst hS
  simp only [lenP, mkL, lim] at hl
  dsimp only at hob
  have hH := hob
  obtain ⟨hn, hpl, hp0, hxl, hcl, hrow⟩ := hob
  have hyl := nxY_len (o := o) (x := x) (pl := pl) (c := c)
  have hyg := fun v (hv : v < o.length) => nxY_get (o := o) (x := x) (pl := pl) (c := c) hv
  have hrl : ∀ v, v < (nxY o x pl c).length → ((nxY o x pl c).getD v []).length ≤ 64 := fun v h => by
    rw [hyl] at h; rw [hyg v h]; exact (hrow v h).1
  have hb4 : ∀ i t, i ≤ o.length → (bkI (nxY o x pl c) t i).length ≤ 64 * i := fun i t hi => bkI_len hrl i (by rw [hyl]; exact hi)
  repeat' first
    | with_reducible first | refine Zas ?_ | refine Zao ?_ | refine Zac ?_ | refine Zad ?_ | refine Zai ?_ | refine Zaq ?_ | refine Zah ?_ | refine Zak ?_ | refine Zar ?_ | refine Zat ?_ | refine Zap ?_ | refine Zam ?_ | refine Zaa ?_ | refine Zae ?_ | refine Zab ?_ | refine Zal ?_
    | ((with_reducible refine Zaj ?_ ?_); exact rfl)
    | ((with_reducible refine Zau ?_); refine Zan rfl ?_ ?_ <;> intro hb <;> (try simp only [zH] at hb))
    | ((with_reducible refine Za0 ?_); (first | refine Zaf htb hmz Zbb (fun _ => false) rfl rfl ?_ | refine Zag hmo htb hmz Zbb (fun _ => false) rfl rfl (by kernel_rfl) ?_); intro m' e' l' ob h; simp only [zE0, zE1, zE2, zE3, zE4, zE5, evp, evx, ev1, evLoad, evStore, evBin, isBoolK, forall_const, z38, tb, Nat.reduceAdd, Nat.reduceSub, Nat.reduceMul, Nat.reduceEqDiff, Nat.reduceLeDiff, Nat.reduceLT, Nat.reduceBEq, Nat.reduceBNe, ↓reduceIte, reduceIte, spWh, nxtS, badS] at h; obtain ⟨rfl, rfl, rfl, rfl⟩ := h; refine ⟨?_, ?_⟩)
    | ((with_reducible refine Ob.mk ?_); first | exact trivial | (intros; omega) | ((repeat' first | apply And.intro | (intro hg; have hg' := hg; try simp only [zH] at hg')) <;> first | assumption | omega | (simp only [zH]; omega)))
  generalize hy : nxY o x pl c = y at *
  refine Za1 (τ := Nat) (fun i => i ≤ o.length) (fun i => ⟨14, [(21, .int .i64 i), (20, .int .i64 o.length), (3, .own 7), (1, (.rop (.agg (.cons (.roI o) (.cons (.roI p) (.cons (.roII x) (.cons (.int .i64 pl) (.cons (.roI c) .nil))))))))], [(6, some (.rows ((List.range o.length).map fun t => bkI y t i))), (7, some (.box (.own 6)))], []⟩) (fun i => o.length - i) 0 [] ?_ (Nat.zero_le _) ?_
  · (refine ⟨rfl, ?_, ?_⟩ <;> simp only [zE0, zE1, zE2, zE3, zE4, zE5, evp, evx, ev1, evLoad, evStore, evBin, isBoolK, forall_const, z38, tb, Nat.reduceAdd, Nat.reduceSub, Nat.reduceMul, Nat.reduceEqDiff, Nat.reduceLeDiff, Nat.reduceLT, Nat.reduceBEq, Nat.reduceBNe, ↓reduceIte, reduceIte, spWh, nxtS, badS, zI])
    refine List.ext_getElem (by simp) fun j h1 h2 => ?_
    simp [bkI]
  intro i hi
  have hcl1 := hcl i
  have hrow1 := hrow i
  have hyg1 := hyg i
  repeat' first
    | with_reducible first | refine Zas ?_ | refine Zao ?_ | refine Zac ?_ | refine Zad ?_ | refine Zai ?_ | refine Zaq ?_ | refine Zah ?_ | refine Zak ?_ | refine Zar ?_ | refine Zat ?_ | refine Zap ?_ | refine Zam ?_ | refine Zaa ?_ | refine Zae ?_ | refine Zab ?_ | refine Zal ?_
    | ((with_reducible refine Zaj ?_ ?_); exact rfl)
    | ((with_reducible refine Zau ?_); refine Zan rfl ?_ ?_ <;> intro hb <;> (try simp only [zH] at hb))
    | ((with_reducible refine Zav 6 ?_ ?_); (· exact rfl); (with_reducible refine Zav 11 ?_ ?_); (· exact rfl); (first | refine Zaf htb hmz Zbb (fun _ => false) rfl rfl ?_ | refine Zag hmo htb hmz Zbb (fun _ => false) rfl rfl (by kernel_rfl) ?_); intro m' e' l' ob h; simp only [zE0, zE1, zE2, zE3, zE4, zE5, evp, evx, ev1, evLoad, evStore, evBin, isBoolK, forall_const, z38, tb, Nat.reduceAdd, Nat.reduceSub, Nat.reduceMul, Nat.reduceEqDiff, Nat.reduceLeDiff, Nat.reduceLT, Nat.reduceBEq, Nat.reduceBNe, ↓reduceIte, reduceIte, spWh, nxtS, badS] at h; obtain ⟨rfl, rfl, rfl, rfl⟩ := h; refine ⟨?_, ?_⟩)
    | ((with_reducible refine Ob.mk ?_); first | exact trivial | (intros; omega) | ((repeat' first | apply And.intro | (intro hg; have hg' := hg; try simp only [zH] at hg')) <;> first | assumption | omega | (simp only [zH]; omega)))
  · have hil : i < o.length := by omega
    obtain ⟨hr64, hrb⟩ := hrow1 hil
    have hyg1 := hyg1 hil
    rw [← Zh2 (p := p)] at hyg1
    have hj0 : ∀ t, bkJ y t i (y.getD i []).length = bkI y t (i + 1) := fun t => bkJ_all
    have hjs : ∀ t j, j < (y.getD i []).length → bkJ y t i (j + 1) = if (y.getD i []).getD j 0 = (t : Int) then bkJ y t i j ++ [(i : Int)] else bkJ y t i j := fun t j h => bkJ_succ h
    have hjl : ∀ t j, (bkJ y t i j).length ≤ 64 * i + 64 := fun t j => by
      have h1 := hb4 i t hi
      have h2 : ((y.getD i []).take j).count (t : Int) ≤ ((y.getD i []).take j).length := List.count_le_length
      have h3 : ((y.getD i []).take j).length ≤ (y.getD i []).length := by rw [List.length_take]; omega
      have h4 := hrl i (by omega)
      simp only [bkJ, List.length_append, List.length_replicate]; omega
    rw [hyg1] at hj0 hjs
    clear hrow1 hyg hrow hp0 hyg1 hrl hcl
    generalize nxF ⟨o, p, x⟩ c pl i = rw at *
    refine Za1 (τ := Nat) (fun j => j ≤ rw.length) (fun j => ⟨14, [(28, .int .i64 j), (27, .int .i64 rw.length), (26, .roI rw), (4, .int .i64 i), (21, .int .i64 i), (20, .int .i64 o.length), (3, .own 7), (1, (.rop (.agg (.cons (.roI o) (.cons (.roI p) (.cons (.roII x) (.cons (.int .i64 pl) (.cons (.roI c) .nil))))))))], [(6, some (.rows ((List.range o.length).map fun t => bkJ y t i j))), (7, some (.box (.own 6)))], []⟩) (fun j => rw.length - j) 0 [] ?_ (Nat.zero_le _) ?_
    · (refine ⟨rfl, ?_, ?_⟩ <;> simp only [zE0, zE1, zE2, zE3, zE4, zE5, evp, evx, ev1, evLoad, evStore, evBin, isBoolK, forall_const, z38, tb, Nat.reduceAdd, Nat.reduceSub, Nat.reduceMul, Nat.reduceEqDiff, Nat.reduceLeDiff, Nat.reduceLT, Nat.reduceBEq, Nat.reduceBNe, ↓reduceIte, reduceIte, spWh, nxtS, badS, zI])
      simp only [bkJ_zero]
    intro j hj
    have hrb := hrb j
    have hget : ∀ t, t < o.length → ((List.range o.length).map fun t => bkJ y t i j).getD t [] = bkJ y t i j := fun t ht => by simp [List.getD_eq_getElem?_getD, ht]
    have hlen : ((List.range o.length).map fun t => bkJ y t i j).length = o.length := by simp
    repeat' first
      | with_reducible first | refine Zas ?_ | refine Zao ?_ | refine Zac ?_ | refine Zad ?_ | refine Zai ?_ | refine Zaq ?_ | refine Zah ?_ | refine Zak ?_ | refine Zar ?_ | refine Zat ?_ | refine Zap ?_ | refine Zam ?_ | refine Zaa ?_ | refine Zae ?_ | refine Zab ?_ | refine Zal ?_
      | ((with_reducible refine Zaj ?_ ?_); exact rfl)
      | ((with_reducible refine Zau ?_); refine Zan rfl ?_ ?_ <;> intro hb <;> (try simp only [zH] at hb))
      | ((with_reducible refine Zav 8 ?_ ?_); (· exact rfl); (with_reducible refine Zav 10 ?_ ?_); (· exact rfl); (first | refine Zaf htb hmz Zbb (fun _ => false) rfl rfl ?_ | refine Zag hmo htb hmz Zbb (fun _ => false) rfl rfl (by kernel_rfl) ?_); intro m' e' l' ob h; simp only [zE0, zE1, zE2, zE3, zE4, zE5, evp, evx, ev1, evLoad, evStore, evBin, isBoolK, forall_const, z38, tb, Nat.reduceAdd, Nat.reduceSub, Nat.reduceMul, Nat.reduceEqDiff, Nat.reduceLeDiff, Nat.reduceLT, Nat.reduceBEq, Nat.reduceBNe, ↓reduceIte, reduceIte, spWh, nxtS, badS] at h; obtain ⟨rfl, rfl, rfl, rfl⟩ := h; refine ⟨?_, ?_⟩)
      | ((with_reducible refine Ob.mk ?_); first | exact trivial | (intros; omega) | ((repeat' first | apply And.intro | (intro hg; have hg' := hg; try simp only [zH] at hg')) <;> first | assumption | omega | (simp only [zH]; omega)))
    · have hjr : j < rw.length := by omega
      obtain ⟨c1, c2⟩ := hrb hjr
      have h1 := hget (rw.getD j 0).toNat (by omega)
      have h2 := hjl (rw.getD j 0).toNat j
      have hjs1 := fun t => hjs t j hjr
      generalize rw.getD j 0 = w at *
      repeat' first
        | with_reducible first | refine Zas ?_ | refine Zao ?_ | refine Zac ?_ | refine Zad ?_ | refine Zai ?_ | refine Zaq ?_ | refine Zah ?_ | refine Zak ?_ | refine Zar ?_ | refine Zat ?_ | refine Zap ?_ | refine Zam ?_ | refine Zaa ?_ | refine Zae ?_ | refine Zab ?_ | refine Zal ?_
        | ((with_reducible refine Zaj ?_ ?_); exact rfl)
        | ((with_reducible refine Zau ?_); refine Zan rfl ?_ ?_ <;> intro hb <;> (try simp only [zH] at hb))
        | ((with_reducible refine Za0 ?_); (first | refine Zaf htb hmz Zbb (fun _ => false) rfl rfl ?_ | refine Zag hmo htb hmz Zbb (fun _ => false) rfl rfl (by kernel_rfl) ?_); intro m' e' l' ob h; simp only [zE0, zE1, zE2, zE3, zE4, zE5, evp, evx, ev1, evLoad, evStore, evBin, isBoolK, forall_const, z38, tb, Nat.reduceAdd, Nat.reduceSub, Nat.reduceMul, Nat.reduceEqDiff, Nat.reduceLeDiff, Nat.reduceLT, Nat.reduceBEq, Nat.reduceBNe, ↓reduceIte, reduceIte, spWh, nxtS, badS] at h; obtain ⟨rfl, rfl, rfl, rfl⟩ := h; refine ⟨?_, ?_⟩)
        | ((with_reducible refine Ob.mk ?_); first | exact trivial | (intros; omega) | ((repeat' first | apply And.intro | (intro hg; have hg' := hg; try simp only [zH] at hg')) <;> first | assumption | omega | (simp only [zH]; omega)))
      · rw [h1, hlen]
        exact Ob.mk ⟨⟨⟨⟨⟨by omega, by omega⟩, by omega⟩, by omega⟩, by omega, by omega⟩, by omega⟩
      refine back (j + 1) [] ?_ (by omega) (by omega)
      (refine ⟨rfl, ?_, ?_⟩ <;> simp only [zE0, zE1, zE2, zE3, zE4, zE5, evp, evx, ev1, evLoad, evStore, evBin, isBoolK, forall_const, z38, tb, Nat.reduceAdd, Nat.reduceSub, Nat.reduceMul, Nat.reduceEqDiff, Nat.reduceLeDiff, Nat.reduceLT, Nat.reduceBEq, Nat.reduceBNe, ↓reduceIte, reduceIte, spWh, nxtS, badS, zI])
      refine map_set (fun ht => ?_) fun s hs => ?_
      · rw [hjs1, if_pos (by omega), hget _ ht]
      · rw [hjs1, if_neg (by omega)]
    have hje : j = rw.length := by omega
    subst hje
    repeat' first
      | with_reducible first | refine Zas ?_ | refine Zao ?_ | refine Zac ?_ | refine Zad ?_ | refine Zai ?_ | refine Zaq ?_ | refine Zah ?_ | refine Zak ?_ | refine Zar ?_ | refine Zat ?_ | refine Zap ?_ | refine Zam ?_ | refine Zaa ?_ | refine Zae ?_ | refine Zab ?_ | refine Zal ?_
      | ((with_reducible refine Zaj ?_ ?_); exact rfl)
      | ((with_reducible refine Zau ?_); refine Zan rfl ?_ ?_ <;> intro hb <;> (try simp only [zH] at hb))
      | ((with_reducible refine Za0 ?_); (first | refine Zaf htb hmz Zbb (fun _ => false) rfl rfl ?_ | refine Zag hmo htb hmz Zbb (fun _ => false) rfl rfl (by kernel_rfl) ?_); intro m' e' l' ob h; simp only [zE0, zE1, zE2, zE3, zE4, zE5, evp, evx, ev1, evLoad, evStore, evBin, isBoolK, forall_const, z38, tb, Nat.reduceAdd, Nat.reduceSub, Nat.reduceMul, Nat.reduceEqDiff, Nat.reduceLeDiff, Nat.reduceLT, Nat.reduceBEq, Nat.reduceBNe, ↓reduceIte, reduceIte, spWh, nxtS, badS] at h; obtain ⟨rfl, rfl, rfl, rfl⟩ := h; refine ⟨?_, ?_⟩)
      | ((with_reducible refine Ob.mk ?_); first | exact trivial | (intros; omega) | ((repeat' first | apply And.intro | (intro hg; have hg' := hg; try simp only [zH] at hg')) <;> first | assumption | omega | (simp only [zH]; omega)))
    refine back (i + 1) [] ?_ (by omega) (by omega)
    (refine ⟨rfl, ?_, ?_⟩ <;> simp only [zE0, zE1, zE2, zE3, zE4, zE5, evp, evx, ev1, evLoad, evStore, evBin, isBoolK, forall_const, z38, tb, Nat.reduceAdd, Nat.reduceSub, Nat.reduceMul, Nat.reduceEqDiff, Nat.reduceLeDiff, Nat.reduceLT, Nat.reduceBEq, Nat.reduceBNe, ↓reduceIte, reduceIte, spWh, nxtS, badS, zI])
    simp only [hj0]
  have hie : i = o.length := by omega
  subst hie
  clear hcl1 hrow1 hyg1
  have hBl : ((List.range o.length).map fun t => bkI y t o.length).length = o.length := by simp
  have hBg : ∀ t, t < o.length → ((List.range o.length).map fun t => bkI y t o.length).getD t [] = bkI y t o.length := fun t ht => by simp [List.getD_eq_getElem?_getD, ht]
  generalize (List.range o.length).map (fun t => bkI y t o.length) = B at *
  refine Zbv 6 (.roII B) (by simp only [Zax, Za4, fzE, fzA, fzR, fzB, set1, nbeq, Nat.reduceEqDiff, decide_true, decide_false, ↓reduceIte, reduceIte, cond_true, cond_false, List.take_length, Option.some.injEq]; rfl) (by first | exact rfl | (refine ⟨?_, rfl⟩; first | rfl | (intros; rfl))) (by simp only [Zax, Za4, fzE, fzA, fzR, fzB, set1, nbeq, Nat.reduceEqDiff, decide_true, decide_false, ↓reduceIte, reduceIte, cond_true, cond_false, List.take_length, Option.some.injEq]; rfl) (by simp only [Zax, Za4, fzE, fzA, fzR, fzB, set1, nbeq, Nat.reduceEqDiff, decide_true, decide_false, ↓reduceIte, reduceIte, cond_true, cond_false, List.take_length, Option.some.injEq]; rfl) ?_
  refine Zbv 7 (.rop (.roII B)) (by simp only [Zax, Za4, fzE, fzA, fzR, fzB, set1, nbeq, Nat.reduceEqDiff, decide_true, decide_false, ↓reduceIte, reduceIte, cond_true, cond_false, List.take_length, Option.some.injEq]; rfl) (by first | exact rfl | (refine ⟨?_, rfl⟩; first | rfl | (intros; rfl))) (by simp only [Zax, Za4, fzE, fzA, fzR, fzB, set1, nbeq, Nat.reduceEqDiff, decide_true, decide_false, ↓reduceIte, reduceIte, cond_true, cond_false, List.take_length, Option.some.injEq]; rfl) (by simp only [Zax, Za4, fzE, fzA, fzR, fzB, set1, nbeq, Nat.reduceEqDiff, decide_true, decide_false, ↓reduceIte, reduceIte, cond_true, cond_false, List.take_length, Option.some.injEq]; rfl) ?_
  repeat' first
    | with_reducible first | refine Zas ?_ | refine Zao ?_ | refine Zac ?_ | refine Zad ?_ | refine Zai ?_ | refine Zaq ?_ | refine Zah ?_ | refine Zak ?_ | refine Zar ?_ | refine Zat ?_ | refine Zap ?_ | refine Zam ?_ | refine Zaa ?_ | refine Zae ?_ | refine Zab ?_ | refine Zal ?_
    | ((with_reducible refine Zaj ?_ ?_); exact rfl)
    | ((with_reducible refine Zau ?_); refine Zan rfl ?_ ?_ <;> intro hb <;> (try simp only [zH] at hb))
    | ((with_reducible refine Za0 ?_); (first | refine Zaf htb hmz Zbb (fun _ => false) rfl rfl ?_ | refine Zag hmo htb hmz Zbb (fun _ => false) rfl rfl (by kernel_rfl) ?_); intro m' e' l' ob h; simp only [zE0, zE1, zE2, zE3, zE4, zE5, evp, evx, ev1, evLoad, evStore, evBin, isBoolK, forall_const, z38, tb, Nat.reduceAdd, Nat.reduceSub, Nat.reduceMul, Nat.reduceEqDiff, Nat.reduceLeDiff, Nat.reduceLT, Nat.reduceBEq, Nat.reduceBNe, ↓reduceIte, reduceIte, spWh, nxtS, badS] at h; obtain ⟨rfl, rfl, rfl, rfl⟩ := h; refine ⟨?_, ?_⟩)
    | ((with_reducible refine Ob.mk ?_); first | exact trivial | (intros; omega) | ((repeat' first | apply And.intro | (intro hg; have hg' := hg; try simp only [zH] at hg')) <;> first | assumption | omega | (simp only [zH]; omega)))
  have hz : List.replicate o.length false = mix (fun _ => true) (fun _ => false) o.length 0 := List.ext_getElem (by simp [mix]) fun j h1 h2 => by simp [mix]
  refine Za1 (τ := Nat) (fun i => i ≤ o.length) (fun i => ⟨25, [(51, .int .i64 i), (50, .int .i64 o.length), (49, .own 19), (7, .own 20), (3, .rop (.roII B)), (1, (.rop (.agg (.cons (.roI o) (.cons (.roI p) (.cons (.roII x) (.cons (.int .i64 pl) (.cons (.roI c) .nil))))))))], [(19, some (.bools (mix (fun _ => true) (fun _ => false) o.length i))), (20, some (.box (.own 19)))], []⟩) (fun i => o.length - i) 0 [] ?_ (Nat.zero_le _) ?_
  · (refine ⟨rfl, ?_, ?_⟩ <;> simp only [zE0, zE1, zE2, zE3, zE4, zE5, evp, evx, ev1, evLoad, evStore, evBin, isBoolK, forall_const, z38, tb, Nat.reduceAdd, Nat.reduceSub, Nat.reduceMul, Nat.reduceEqDiff, Nat.reduceLeDiff, Nat.reduceLT, Nat.reduceBEq, Nat.reduceBNe, ↓reduceIte, reduceIte, spWh, nxtS, badS, zI])
    · rw [List.length_replicate]
    · exact hz
  intro i hi
  have hm1 : (mix (fun _ => true) (fun _ => false) o.length i).length = o.length := Zdo
  have hms := Zdn (f := fun _ => true) (h := fun _ => false) (n := o.length) (i := i)
  clear hz
  repeat' first
    | with_reducible first | refine Zas ?_ | refine Zao ?_ | refine Zac ?_ | refine Zad ?_ | refine Zai ?_ | refine Zaq ?_ | refine Zah ?_ | refine Zak ?_ | refine Zar ?_ | refine Zat ?_ | refine Zap ?_ | refine Zam ?_ | refine Zaa ?_ | refine Zae ?_ | refine Zab ?_ | refine Zal ?_
    | ((with_reducible refine Zaj ?_ ?_); exact rfl)
    | ((with_reducible refine Zau ?_); refine Zan rfl ?_ ?_ <;> intro hb <;> (try simp only [zH] at hb))
    | ((with_reducible refine Zav 15 ?_ ?_); (· exact rfl); (with_reducible refine Zav 17 ?_ ?_); (· exact rfl); (first | refine Zaf htb hmz Zbb (fun _ => false) rfl rfl ?_ | refine Zag hmo htb hmz Zbb (fun _ => false) rfl rfl (by kernel_rfl) ?_); intro m' e' l' ob h; simp only [zE0, zE1, zE2, zE3, zE4, zE5, evp, evx, ev1, evLoad, evStore, evBin, isBoolK, forall_const, z38, tb, Nat.reduceAdd, Nat.reduceSub, Nat.reduceMul, Nat.reduceEqDiff, Nat.reduceLeDiff, Nat.reduceLT, Nat.reduceBEq, Nat.reduceBNe, ↓reduceIte, reduceIte, spWh, nxtS, badS] at h; obtain ⟨rfl, rfl, rfl, rfl⟩ := h; refine ⟨?_, ?_⟩)
    | ((with_reducible refine Ob.mk ?_); first | exact trivial | (intros; omega) | ((repeat' first | apply And.intro | (intro hg; have hg' := hg; try simp only [zH] at hg')) <;> first | assumption | omega | (simp only [zH]; omega)))
  · repeat' first
      | with_reducible first | refine Zas ?_ | refine Zao ?_ | refine Zac ?_ | refine Zad ?_ | refine Zai ?_ | refine Zaq ?_ | refine Zah ?_ | refine Zak ?_ | refine Zar ?_ | refine Zat ?_ | refine Zap ?_ | refine Zam ?_ | refine Zaa ?_ | refine Zae ?_ | refine Zab ?_ | refine Zal ?_
      | ((with_reducible refine Zaj ?_ ?_); exact rfl)
      | ((with_reducible refine Zau ?_); refine Zan rfl ?_ ?_ <;> intro hb <;> (try simp only [zH] at hb))
      | ((with_reducible refine Za0 ?_); (first | refine Zaf htb hmz Zbb (fun _ => false) rfl rfl ?_ | refine Zag hmo htb hmz Zbb (fun _ => false) rfl rfl (by kernel_rfl) ?_); intro m' e' l' ob h; simp only [zE0, zE1, zE2, zE3, zE4, zE5, evp, evx, ev1, evLoad, evStore, evBin, isBoolK, forall_const, z38, tb, Nat.reduceAdd, Nat.reduceSub, Nat.reduceMul, Nat.reduceEqDiff, Nat.reduceLeDiff, Nat.reduceLT, Nat.reduceBEq, Nat.reduceBNe, ↓reduceIte, reduceIte, spWh, nxtS, badS] at h; obtain ⟨rfl, rfl, rfl, rfl⟩ := h; refine ⟨?_, ?_⟩)
      | ((with_reducible refine Ob.mk ?_); first | exact trivial | (intros; omega) | ((repeat' first | apply And.intro | (intro hg; have hg' := hg; try simp only [zH] at hg')) <;> first | assumption | omega | (simp only [zH]; omega)))
    refine back (i + 1) [] ?_ (by omega) (by omega)
    (refine ⟨rfl, ?_, ?_⟩ <;> simp only [zE0, zE1, zE2, zE3, zE4, zE5, evp, evx, ev1, evLoad, evStore, evBin, isBoolK, forall_const, z38, tb, Nat.reduceAdd, Nat.reduceSub, Nat.reduceMul, Nat.reduceEqDiff, Nat.reduceLeDiff, Nat.reduceLT, Nat.reduceBEq, Nat.reduceBNe, ↓reduceIte, reduceIte, spWh, nxtS, badS, zI])
    exact hms
  have hie : i = o.length := by omega
  subst hie
  rw [Zdp]
  have hw0 : (List.range o.length).map (fun _ => true) = wnX (fun a b => b ∈ nxN o x pl c a) o.length (kp (bdK o p x pl c) o.length) 0 := by
    rw [wnX_zero]
    exact List.ext_getElem (by simp) fun j h1 h2 => by simp
  rw [hw0]
  clear hw0 hms hm1
  repeat' first
    | with_reducible first | refine Zas ?_ | refine Zao ?_ | refine Zac ?_ | refine Zad ?_ | refine Zai ?_ | refine Zaq ?_ | refine Zah ?_ | refine Zak ?_ | refine Zar ?_ | refine Zat ?_ | refine Zap ?_ | refine Zam ?_ | refine Zaa ?_ | refine Zae ?_ | refine Zab ?_ | refine Zal ?_
    | ((with_reducible refine Zaj ?_ ?_); exact rfl)
    | ((with_reducible refine Zau ?_); refine Zan rfl ?_ ?_ <;> intro hb <;> (try simp only [zH] at hb))
    | ((with_reducible refine Za0 ?_); (first | refine Zaf htb hmz Zbb (fun _ => false) rfl rfl ?_ | refine Zag hmo htb hmz Zbb (fun _ => false) rfl rfl (by kernel_rfl) ?_); intro m' e' l' ob h; simp only [zE0, zE1, zE2, zE3, zE4, zE5, evp, evx, ev1, evLoad, evStore, evBin, isBoolK, forall_const, z38, tb, Nat.reduceAdd, Nat.reduceSub, Nat.reduceMul, Nat.reduceEqDiff, Nat.reduceLeDiff, Nat.reduceLT, Nat.reduceBEq, Nat.reduceBNe, ↓reduceIte, reduceIte, spWh, nxtS, badS] at h; obtain ⟨rfl, rfl, rfl, rfl⟩ := h; refine ⟨?_, ?_⟩)
    | ((with_reducible refine Ob.mk ?_); first | exact trivial | (intros; omega) | ((repeat' first | apply And.intro | (intro hg; have hg' := hg; try simp only [zH] at hg')) <;> first | assumption | omega | (simp only [zH]; omega)))
  have hit := fun (ix : Nat → Nat) (I X : Nat → Prop) hI => bad1_iter (o := o) (p := p) (c := c) (x := x) (pl := pl) hn hpl hp0 hxl hcl hrow I X ix hI
  obtain ⟨E, hE⟩ : ∃ E : Nat → Nat → Prop, E = fun a b => b ∈ nxN o x pl c a := ⟨_, rfl⟩
  have hEn : ∀ u t, u < o.length → E u t → t < o.length := by
    intro u t hu ht
    rw [hE] at ht
    obtain ⟨z, hz, rfl⟩ := List.mem_map.1 ht
    obtain ⟨j, hj, rfl⟩ := Zc9 hz
    have := (hrow u hu).2 j hj
    rw [Zh2] at this
    omega
  have hBE : ∀ w, w < o.length → ∀ t : Nat, t ∈ (B.getD w []).map Int.toNat ↔ t < o.length ∧ E t w := by
    intro w hw t
    rw [hBg w hw, List.mem_map, hE]
    constructor
    · rintro ⟨z, hz, rfl⟩
      obtain ⟨v, h1, rfl, h3⟩ := bkI_in.1 hz
      rw [hyg v h1] at h3
      exact ⟨by omega, List.mem_map.2 ⟨_, h3, Int.toNat_natCast _⟩⟩
    · rintro ⟨h1, h2⟩
      obtain ⟨z, h3, h4⟩ := List.mem_map.1 h2
      have h5 : 0 ≤ z := by
        obtain ⟨j, hj, rfl⟩ := Zc9 h3
        have := (hrow t h1).2 j hj
        rw [Zh2] at this
        exact this.1
      refine ⟨t, bkI_in.2 ⟨t, h1, rfl, ?_⟩, Int.toNat_natCast _⟩
      rw [hyg t h1]
      have : (w : Int) = z := by omega
      rw [this]; exact h3
  have hBn : ∀ w, w < o.length → (B.getD w []).length ≤ 64 * o.length ∧ castL ((B.getD w []).map Int.toNat) = B.getD w [] := by
    intro w hw
    rw [hBg w hw]
    refine ⟨hb4 _ _ (Nat.le_refl _), ?_⟩
    unfold castL
    rw [List.map_map]
    refine (List.map_congr_left fun z hz => ?_).trans (List.map_id _)
    obtain ⟨v, h1, rfl, h3⟩ := bkI_in.1 hz
    rfl
  have hwE : wnB o p x pl c = wnX E o.length (kp (bdK o p x pl c) o.length) (kp (bdK o p x pl c) o.length).length := by rw [hE]; rfl
  rw [hwE, ← hE]
  have hKb : ∀ i, i < (kp (bdK o p x pl c) o.length).length → (kp (bdK o p x pl c) o.length).getD i 0 < o.length := fun i h => (Zh3 h).1
  have hXl := fun i => Ze8 (E := E) (n := o.length) (B := kp (bdK o p x pl c) o.length) (i := i)
  have hXc := fun i => wnX_bc (E := E) (n := o.length) hEn (B := kp (bdK o p x pl c) o.length) (i := i)
  have hXn := fun i O => wnX_next (E := E) (n := o.length) (B := kp (bdK o p x pl c) o.length) (i := i) (O := O)
  generalize kp (bdK o p x pl c) o.length = KL at *
  refine Zgs ⟨28, [(59, .fn 52 (.cons (.rop (.agg (.cons (.roI o) (.cons (.roI p) (.cons (.roII x) (.cons (.int .i64 pl) (.cons (.roI c) .nil))))))) .nil)), (7, .own 20), (3, .rop (.roII B))], [(19, some (.bools (wnX E o.length KL 0))), (20, some (.box (.own 19)))], []⟩ [] ?_ ?_
  · (refine ⟨rfl, ?_, ?_⟩ <;> simp only [zE0, zE1, zE2, zE3, zE4, zE5, evp, evx, ev1, evLoad, evStore, evBin, isBoolK, forall_const, z38, tb, Nat.reduceAdd, Nat.reduceSub, Nat.reduceMul, Nat.reduceEqDiff, Nat.reduceLeDiff, Nat.reduceLT, Nat.reduceBEq, Nat.reduceBNe, ↓reduceIte, reduceIte, spWh, nxtS, badS, zI])
  refine awp_rangeU (m := 28) (M := 28) (fun i => i ≤ KL.length) (fun _ : Nat => False) (fun i => ((KL.getD i 0 : Nat) : Int)) (fun i li => bdW o p x pl c (KL.getD i 0) li) (fun i => i < KL.length) (fun i i' => i' = i + 1) (fun i => i = 0) (fun i => i = KL.length) .ret (fun i => [(19, some (.bools (wnX E o.length KL i))), (20, some (.box (.own 19)))]) [] 0 (hit id _ _ fun t h => h) (Nat.zero_le _) rfl rfl rfl rfl rfl rfl rfl rfl (fun k hk => by cases hk) (fun t k _ _ hk => Zhi (M := 28) (l := [(19, some (.bools (wnX E o.length KL t))), (20, some (.box (.own 19)))]) ⟨⟨rfl, trivial⟩, ⟨rfl, rfl⟩, trivial⟩ k _ hk) ?_ ?_ ?_
  · intro lp i li hi hg hL
    have hXl1 := hXl i
    have hXc1 := hXc i
    have hXn1 := hXn i
    have hbn := hKb i hg
    clear hXl hXc hXn hKb hL
    generalize KL.getD i 0 = b at *
    generalize hO0 : wnX E o.length KL i = O0 at *
    first | (refine Zaf htb hmz Zbb (fun _ => false) rfl rfl ?_; intro m' e' l' ob h; simp only [zE0, zE1, zE2, zE3, zE4, zE5, evp, evx, ev1, evLoad, evStore, evBin, isBoolK, forall_const, z38, tb, Nat.reduceAdd, Nat.reduceSub, Nat.reduceMul, Nat.reduceEqDiff, Nat.reduceLeDiff, Nat.reduceLT, Nat.reduceBEq, Nat.reduceBNe, ↓reduceIte, reduceIte, spWh, nxtS, badS] at h; obtain ⟨rfl, rfl, rfl, rfl⟩ := h; refine ⟨?_, ?_⟩)
          | (refine Zag hmo htb hmz Zbb (fun _ => false) rfl rfl (by kernel_rfl) ?_; intro m' e' l' ob h; simp only [zE0, zE1, zE2, zE3, zE4, zE5, evp, evx, ev1, evLoad, evStore, evBin, isBoolK, forall_const, z38, tb, Nat.reduceAdd, Nat.reduceSub, Nat.reduceMul, Nat.reduceEqDiff, Nat.reduceLeDiff, Nat.reduceLT, Nat.reduceBEq, Nat.reduceBNe, ↓reduceIte, reduceIte, spWh, nxtS, badS] at h; obtain ⟨rfl, rfl, rfl, rfl⟩ := h; refine ⟨?_, ?_⟩)
    · first | ((with_reducible refine Ob.mk ?_); first | exact trivial | (intros; omega) | ((repeat' first | apply And.intro | (intro hg; have hg' := hg; try simp only [zH] at hg')) <;> first | assumption | omega | (simp only [zH]; omega))) | skip
    refine ⟨rfl, ?_⟩
    repeat' first
      | with_reducible first | refine Zas ?_ | refine Zao ?_ | refine Zac ?_ | refine Zad ?_ | refine Zai ?_ | refine Zaq ?_ | refine Zah ?_ | refine Zak ?_ | refine Zar ?_ | refine Zat ?_ | refine Zap ?_ | refine Zam ?_ | refine Zaa ?_ | refine Zae ?_ | refine Zab ?_ | refine Zal ?_
      | ((with_reducible refine Zaj ?_ ?_); exact rfl)
      | ((with_reducible refine Zau ?_); refine Zan rfl ?_ ?_ <;> intro hb <;> (try simp only [zH] at hb))
      | ((with_reducible refine Zav 19 ?_ ?_); (· exact rfl); (first | refine Zaf htb hmz Zbb (fun _ => false) rfl rfl ?_ | refine Zag hmo htb hmz Zbb (fun _ => false) rfl rfl (by kernel_rfl) ?_); intro m' e' l' ob h; simp only [zE0, zE1, zE2, zE3, zE4, zE5, evp, evx, ev1, evLoad, evStore, evBin, isBoolK, forall_const, z38, tb, Nat.reduceAdd, Nat.reduceSub, Nat.reduceMul, Nat.reduceEqDiff, Nat.reduceLeDiff, Nat.reduceLT, Nat.reduceBEq, Nat.reduceBNe, ↓reduceIte, reduceIte, spWh, nxtS, badS] at h; obtain ⟨rfl, rfl, rfl, rfl⟩ := h; refine ⟨?_, ?_⟩)
      | ((with_reducible refine Ob.mk ?_); first | exact trivial | (intros; omega) | ((repeat' first | apply And.intro | (intro hg; have hg' := hg; try simp only [zH] at hg')) <;> first | assumption | omega | (simp only [zH]; omega)))
    (refine Zaf htb hmz Zbb (fun i => Nat.beq i 1) rfl rfl ?_; intro m' e' l' ob h; simp only [zE0, zE1, zE2, zE3, zE4, zE5, evp, evx, ev1, evLoad, evStore, evBin, isBoolK, forall_const, z38, tb, Nat.reduceAdd, Nat.reduceSub, Nat.reduceMul, Nat.reduceEqDiff, Nat.reduceLeDiff, Nat.reduceLT, Nat.reduceBEq, Nat.reduceBNe, ↓reduceIte, reduceIte, spWh, nxtS, badS] at h; obtain ⟨rfl, rfl, rfl, rfl⟩ := h; refine ⟨?_, ?_⟩)
    · first | ((with_reducible refine Ob.mk ?_); first | exact trivial | (intros; omega) | ((repeat' first | apply And.intro | (intro hg; have hg' := hg; try simp only [zH] at hg')) <;> first | assumption | omega | (simp only [zH]; omega))) | skip
    refine Zac ?_
    repeat' first
      | with_reducible first | refine Zas ?_ | refine Zao ?_ | refine Zac ?_ | refine Zad ?_ | refine Zai ?_ | refine Zaq ?_ | refine Zah ?_ | refine Zak ?_ | refine Zar ?_ | refine Zat ?_ | refine Zap ?_ | refine Zam ?_ | refine Zaa ?_ | refine Zae ?_ | refine Zab ?_ | refine Zal ?_
      | ((with_reducible refine Zaj ?_ ?_); exact rfl)
      | ((with_reducible refine Zau ?_); refine Zan rfl ?_ ?_ <;> intro hb <;> (try simp only [zH] at hb))
      | ((with_reducible refine Za0 ?_); (first | refine Zaf htb hmz Zbb (fun _ => false) rfl rfl ?_ | refine Zag hmo htb hmz Zbb (fun _ => false) rfl rfl (by kernel_rfl) ?_); intro m' e' l' ob h; simp only [zE0, zE1, zE2, zE3, zE4, zE5, evp, evx, ev1, evLoad, evStore, evBin, isBoolK, forall_const, z38, tb, Nat.reduceAdd, Nat.reduceSub, Nat.reduceMul, Nat.reduceEqDiff, Nat.reduceLeDiff, Nat.reduceLT, Nat.reduceBEq, Nat.reduceBNe, ↓reduceIte, reduceIte, spWh, nxtS, badS] at h; obtain ⟨rfl, rfl, rfl, rfl⟩ := h; refine ⟨?_, ?_⟩)
      | ((with_reducible refine Ob.mk ?_); first | exact trivial | (intros; omega) | ((repeat' first | apply And.intro | (intro hg; have hg' := hg; try simp only [zH] at hg')) <;> first | assumption | omega | (simp only [zH]; omega)))
    refine Za1 (τ := WnS) (fun s => WQ E o.length b O0 s.O s.Q) (fun s => ⟨33, [(10, .own 30), (7, .own 20), (3, .rop (.roII B))], [(30, some (.ints (castL s.Q))), (19, some (.bools s.O)), (20, some (.box (.own 19)))], []⟩) (fun s => ctT s.O * (64 * o.length + 1) + s.Q.length) ⟨O0, [b]⟩ [] ?_ (WQ_first hXl1 hbn hXc1) ?_
    · (refine ⟨rfl, ?_, ?_⟩ <;> simp only [zE0, zE1, zE2, zE3, zE4, zE5, evp, evx, ev1, evLoad, evStore, evBin, isBoolK, forall_const, z38, tb, Nat.reduceAdd, Nat.reduceSub, Nat.reduceMul, Nat.reduceEqDiff, Nat.reduceLeDiff, Nat.reduceLT, Nat.reduceBEq, Nat.reduceBNe, ↓reduceIte, reduceIte, spWh, nxtS, badS, zI])
      rfl
    rintro ⟨O, Q⟩ hW
    dsimp only at hW ⊢
    have hOl := hW.len
    have hbd := hW.bd
    have hcl2 : (castL Q).length = Q.length := List.length_map ..
    have hnn : o.length * (64 * o.length) ≤ 20000 * (64 * 20000) := Nat.mul_le_mul (by omega) (by omega)
    repeat' first
      | with_reducible first | refine Zas ?_ | refine Zao ?_ | refine Zac ?_ | refine Zad ?_ | refine Zai ?_ | refine Zaq ?_ | refine Zah ?_ | refine Zak ?_ | refine Zar ?_ | refine Zat ?_ | refine Zap ?_ | refine Zam ?_ | refine Zaa ?_ | refine Zae ?_ | refine Zab ?_ | refine Zal ?_
      | ((with_reducible refine Zaj ?_ ?_); exact rfl)
      | ((with_reducible refine Zau ?_); refine Zan rfl ?_ ?_ <;> intro hb <;> (try simp only [zH] at hb))
      | ((with_reducible refine Zav 21 ?_ ?_); (· exact rfl); (with_reducible refine Zav 26 ?_ ?_); (· exact rfl); (first | refine Zaf htb hmz Zbb (fun _ => false) rfl rfl ?_ | refine Zag hmo htb hmz Zbb (fun _ => false) rfl rfl (by kernel_rfl) ?_); intro m' e' l' ob h; simp only [zE0, zE1, zE2, zE3, zE4, zE5, evp, evx, ev1, evLoad, evStore, evBin, isBoolK, forall_const, z38, tb, Nat.reduceAdd, Nat.reduceSub, Nat.reduceMul, Nat.reduceEqDiff, Nat.reduceLeDiff, Nat.reduceLT, Nat.reduceBEq, Nat.reduceBNe, ↓reduceIte, reduceIte, spWh, nxtS, badS] at h; obtain ⟨rfl, rfl, rfl, rfl⟩ := h; refine ⟨?_, ?_⟩)
      | ((with_reducible refine Ob.mk ?_); first | exact trivial | (intros; omega) | ((repeat' first | apply And.intro | (intro hg; have hg' := hg; try simp only [zH] at hg')) <;> first | assumption | omega | (simp only [zH]; omega)))
    · cases Q with
      | nil => rw [hcl2] at hb; exact absurd hb (by decide)
      | cons w Q =>
        have hwn := (hW.q w List.mem_cons_self).1
        have hc : castL (w :: Q) = (w : Int) :: castL Q := rfl
        have hcq : (castL Q).length = Q.length := List.length_map ..
        obtain ⟨hBl1, hBc1⟩ := hBn w hwn
        have hBE1 := hBE w hwn
        rw [List.length_cons] at hbd
        rw [hc] at hcl2 ⊢
        repeat' first
          | with_reducible first | refine Zas ?_ | refine Zao ?_ | refine Zac ?_ | refine Zad ?_ | refine Zai ?_ | refine Zaq ?_ | refine Zah ?_ | refine Zak ?_ | refine Zar ?_ | refine Zat ?_ | refine Zap ?_ | refine Zam ?_ | refine Zaa ?_ | refine Zae ?_ | refine Zab ?_ | refine Zal ?_
          | ((with_reducible refine Zaj ?_ ?_); exact rfl)
          | ((with_reducible refine Zau ?_); refine Zan rfl ?_ ?_ <;> intro hb <;> (try simp only [zH] at hb))
          | ((with_reducible refine Zav 23 ?_ ?_); (· exact rfl); (first | refine Zaf htb hmz Zbb (fun _ => false) rfl rfl ?_ | refine Zag hmo htb hmz Zbb (fun _ => false) rfl rfl (by kernel_rfl) ?_); intro m' e' l' ob h; simp only [zE0, zE1, zE2, zE3, zE4, zE5, evp, evx, ev1, evLoad, evStore, evBin, isBoolK, forall_const, z38, tb, Nat.reduceAdd, Nat.reduceSub, Nat.reduceMul, Nat.reduceEqDiff, Nat.reduceLeDiff, Nat.reduceLT, Nat.reduceBEq, Nat.reduceBNe, ↓reduceIte, reduceIte, spWh, nxtS, badS] at h; obtain ⟨rfl, rfl, rfl, rfl⟩ := h; refine ⟨?_, ?_⟩)
          | ((with_reducible refine Ob.mk ?_); first | exact trivial | (intros; omega) | ((repeat' first | apply And.intro | (intro hg; have hg' := hg; try simp only [zH] at hg')) <;> first | assumption | omega | (simp only [zH]; omega)))
        simp only [List.getD_cons_zero, List.drop_succ_cons, List.drop_zero]
        repeat' first
          | with_reducible first | refine Zas ?_ | refine Zao ?_ | refine Zac ?_ | refine Zad ?_ | refine Zai ?_ | refine Zaq ?_ | refine Zah ?_ | refine Zak ?_ | refine Zar ?_ | refine Zat ?_ | refine Zap ?_ | refine Zam ?_ | refine Zaa ?_ | refine Zae ?_ | refine Zab ?_ | refine Zal ?_
          | ((with_reducible refine Zaj ?_ ?_); exact rfl)
          | ((with_reducible refine Zau ?_); refine Zan rfl ?_ ?_ <;> intro hb <;> (try simp only [zH] at hb))
          | ((with_reducible refine Zav 24 ?_ ?_); (· exact rfl); (with_reducible refine Zav 26 ?_ ?_); (· exact rfl); (first | refine Zaf htb hmz Zbb (fun _ => false) rfl rfl ?_ | refine Zag hmo htb hmz Zbb (fun _ => false) rfl rfl (by kernel_rfl) ?_); intro m' e' l' ob h; simp only [zE0, zE1, zE2, zE3, zE4, zE5, evp, evx, ev1, evLoad, evStore, evBin, isBoolK, forall_const, z38, tb, Nat.reduceAdd, Nat.reduceSub, Nat.reduceMul, Nat.reduceEqDiff, Nat.reduceLeDiff, Nat.reduceLT, Nat.reduceBEq, Nat.reduceBNe, ↓reduceIte, reduceIte, spWh, nxtS, badS] at h; obtain ⟨rfl, rfl, rfl, rfl⟩ := h; refine ⟨?_, ?_⟩)
          | ((with_reducible refine Ob.mk ?_); first | exact trivial | (intros; omega) | ((repeat' first | apply And.intro | (intro hg; have hg' := hg; try simp only [zH] at hg')) <;> first | assumption | omega | (simp only [zH]; omega)))
        · refine back ⟨O, Q⟩ [(30, 41)] ?_ (WQ_pop hW hb) (by dsimp only; rw [List.length_cons]; omega)
          (refine ⟨rfl, ?_, ?_⟩ <;> simp only [zE0, zE1, zE2, zE3, zE4, zE5, evp, evx, ev1, evLoad, evStore, evBin, isBoolK, forall_const, z38, tb, Nat.reduceAdd, Nat.reduceSub, Nat.reduceMul, Nat.reduceEqDiff, Nat.reduceLeDiff, Nat.reduceLT, Nat.reduceBEq, Nat.reduceBNe, ↓reduceIte, reduceIte, spWh, nxtS, badS, zI])
        · have hwt : O.getD w false = true := hb
          have hW2 := WQ_take hW hwt hBE1 (by rw [List.length_map]; exact hBl1)
          have hct := Zha hwt
          have hqa : castL (Q ++ (B.getD w []).map Int.toNat) = castL Q ++ B.getD w [] := by
            have h0 : castL (Q ++ (B.getD w []).map Int.toNat) = castL Q ++ castL ((B.getD w []).map Int.toNat) := List.map_append ..
            rw [h0, hBc1]
          have hal : ((B.getD w []).map Int.toNat).length = (B.getD w []).length := List.length_map ..
          clear hBc1 hBE1
          repeat' first
            | with_reducible first | refine Zas ?_ | refine Zao ?_ | refine Zac ?_ | refine Zad ?_ | refine Zai ?_ | refine Zaq ?_ | refine Zah ?_ | refine Zak ?_ | refine Zar ?_ | refine Zat ?_ | refine Zap ?_ | refine Zam ?_ | refine Zaa ?_ | refine Zae ?_ | refine Zab ?_ | refine Zal ?_
            | ((with_reducible refine Zaj ?_ ?_); exact rfl)
            | ((with_reducible refine Zau ?_); refine Zan rfl ?_ ?_ <;> intro hb <;> (try simp only [zH] at hb))
            | ((with_reducible refine Za0 ?_); (first | refine Zaf htb hmz Zbb (fun _ => false) rfl rfl ?_ | refine Zag hmo htb hmz Zbb (fun _ => false) rfl rfl (by kernel_rfl) ?_); intro m' e' l' ob h; simp only [zE0, zE1, zE2, zE3, zE4, zE5, evp, evx, ev1, evLoad, evStore, evBin, isBoolK, forall_const, z38, tb, Nat.reduceAdd, Nat.reduceSub, Nat.reduceMul, Nat.reduceEqDiff, Nat.reduceLeDiff, Nat.reduceLT, Nat.reduceBEq, Nat.reduceBNe, ↓reduceIte, reduceIte, spWh, nxtS, badS] at h; obtain ⟨rfl, rfl, rfl, rfl⟩ := h; refine ⟨?_, ?_⟩)
            | ((with_reducible refine Ob.mk ?_); first | exact trivial | (intros; omega) | ((repeat' first | apply And.intro | (intro hg; have hg' := hg; try simp only [zH] at hg')) <;> first | assumption | omega | (simp only [zH]; omega)))
          refine back ⟨O.set w false, Q ++ (B.getD w []).map Int.toNat⟩ [(30, 57)] ?_ hW2 ?_
          · (refine ⟨rfl, ?_, ?_⟩ <;> simp only [zE0, zE1, zE2, zE3, zE4, zE5, evp, evx, ev1, evLoad, evStore, evBin, isBoolK, forall_const, z38, tb, Nat.reduceAdd, Nat.reduceSub, Nat.reduceMul, Nat.reduceEqDiff, Nat.reduceLeDiff, Nat.reduceLT, Nat.reduceBEq, Nat.reduceBNe, ↓reduceIte, reduceIte, spWh, nxtS, badS, zI])
            exact hqa.symm
          · dsimp only
            have hm : ctT O * (64 * o.length + 1) = ctT (O.set w false) * (64 * o.length + 1) + (64 * o.length + 1) := by rw [← hct, Nat.add_mul, Nat.one_mul]
            rw [List.length_append, List.length_cons, hm]
            omega
    have hQ0 : Q = [] := by
      cases Q with
      | nil => rfl
      | cons w Q => rw [hcl2, List.length_cons] at hb; exfalso; omega
    subst hQ0
    have hO := hXn1 O hW hEn hbn
    refine ⟨_, i + 1, [], rfl, ?_, .inl ⟨rfl, hg, rfl⟩⟩
    rw [hO]
    (refine ⟨rfl, ?_, ?_⟩ <;> simp only [zE0, zE1, zE2, zE3, zE4, zE5, evp, evx, ev1, evLoad, evStore, evBin, isBoolK, forall_const, z38, tb, Nat.reduceAdd, Nat.reduceSub, Nat.reduceMul, Nat.reduceEqDiff, Nat.reduceLeDiff, Nat.reduceLT, Nat.reduceBEq, Nat.reduceBNe, ↓reduceIte, reduceIte, spWh, nxtS, badS, zI])
  · intro i hi hfin
    have hfin : i = KL.length := hfin
    subst hfin
    refine Zad (Zac ?_)
    refine Zbv 19 (.roB (wnX E o.length KL KL.length)) (by simp only [Zax, Za4, fzE, fzA, fzR, fzB, set1, nbeq, Nat.reduceEqDiff, decide_true, decide_false, ↓reduceIte, reduceIte, cond_true, cond_false, List.take_length, Option.some.injEq]; rfl) (by first | exact rfl | (refine ⟨?_, rfl⟩; first | rfl | (intros; rfl))) (by simp only [Zax, Za4, fzE, fzA, fzR, fzB, set1, nbeq, Nat.reduceEqDiff, decide_true, decide_false, ↓reduceIte, reduceIte, cond_true, cond_false, List.take_length, Option.some.injEq]; rfl) (by simp only [Zax, Za4, fzE, fzA, fzR, fzB, set1, nbeq, Nat.reduceEqDiff, decide_true, decide_false, ↓reduceIte, reduceIte, cond_true, cond_false, List.take_length, Option.some.injEq]; rfl) ?_
    repeat' first
      | with_reducible first | refine Zas ?_ | refine Zao ?_ | refine Zac ?_ | refine Zad ?_ | refine Zai ?_ | refine Zaq ?_ | refine Zah ?_ | refine Zak ?_ | refine Zar ?_ | refine Zat ?_ | refine Zap ?_ | refine Zam ?_ | refine Zaa ?_ | refine Zae ?_ | refine Zab ?_ | refine Zal ?_
      | ((with_reducible refine Zaj ?_ ?_); exact rfl)
      | ((with_reducible refine Zau ?_); refine Zan rfl ?_ ?_ <;> intro hb <;> (try simp only [zH] at hb))
      | ((with_reducible refine Za0 ?_); (first | refine Zaf htb hmz Zbb (fun _ => false) rfl rfl ?_ | refine Zag hmo htb hmz Zbb (fun _ => false) rfl rfl (by kernel_rfl) ?_); intro m' e' l' ob h; simp only [zE0, zE1, zE2, zE3, zE4, zE5, evp, evx, ev1, evLoad, evStore, evBin, isBoolK, forall_const, z38, tb, Nat.reduceAdd, Nat.reduceSub, Nat.reduceMul, Nat.reduceEqDiff, Nat.reduceLeDiff, Nat.reduceLT, Nat.reduceBEq, Nat.reduceBNe, ↓reduceIte, reduceIte, spWh, nxtS, badS] at h; obtain ⟨rfl, rfl, rfl, rfl⟩ := h; refine ⟨?_, ?_⟩)
      | ((with_reducible refine Ob.mk ?_); first | exact trivial | (intros; omega) | ((repeat' first | apply And.intro | (intro hg; have hg' := hg; try simp only [zH] at hg')) <;> first | assumption | omega | (simp only [zH]; omega)))
    refine ⟨_, _, rfl, rfl, fun k hk => by rw [List.mem_singleton.1 hk]; rfl, (by show [28].Nodup; decide), Nat.zero_le _, Zaw rfl ?_ rfl⟩
    rfl
  · intro t h; exact h.elim
end Go.Proofs.Ytbcghiagomkadaa.Cal
namespace Go.Proofs.Ytbcghiagomkadaa.Cal
open Go Pl
theorem Zg8 {o p : List Int} {x : List (List Int)} {pl : Int} {c : List Int} (hv : validB ⟨o, p, x⟩ = true) (hf : fullB ⟨o, p, x⟩ pl c = true) : HeldOK o p x pl c := by
  have hV := validB_iff.1 hv
  have hG := gok hV
  obtain ⟨h1, h2⟩ := Zgj hv hf
  refine ⟨hG.n, hG.pl, fun v hv => (hG.pri v hv).1, hG.xl, fun v hv _ => by rw [h1]; exact hv, fun v hv => ?_⟩
  unfold nxF
  split
  · rename_i ho
    refine ⟨by simp, fun j hj => ?_⟩
    have hj : j < 1 := hj
    obtain rfl : j = 0 := by omega
    exact h2 v hv ho
  · exact ⟨(hG.len v hv).2, hG.at' v hv⟩
theorem Zdv {o p : List Int} {x : List (List Int)} {pl : Int} {c : List Int} {v : Nat} (hv : v < o.length) : nxN o x pl c v = rws (fromG ⟨o, p, x⟩ pl c).nxt v := by
  unfold rws nxN
  rw [fromG_x (g := ⟨o, p, x⟩) hv]
  rfl
theorem om1 {z pl : Int} (hp : pl = 0 ∨ pl = 1) (h : z ≠ pl) (hm : z = 0 ∨ z = 1) : z = 1 - pl := by omega
theorem Zgy {o p : List Int} {x : List (List Int)} {pl : Int} {c : List Int} (hH : HeldOK o p x pl c) (hp : pl = 0 ∨ pl = 1) : wnB o p x pl c = fromL ⟨o, p, x⟩ pl c := by
  have hEn : ∀ u t, u < o.length → t ∈ nxN o x pl c u → t < o.length := by
    intro u t hu ht
    obtain ⟨z, hz, rfl⟩ := List.mem_map.1 ht
    obtain ⟨j, hj, rfl⟩ := Zc9 hz
    have := (hH.row u hu).2 j hj
    rw [Zh2] at this
    omega
  have hlen : (wnB o p x pl c).length = o.length := Ze8
  have hfl : (fromL ⟨o, p, x⟩ pl c).length = o.length := by simp [fromL]
  have g1 : ∀ {F : List Bool} {u : Nat} (hj : u < F.length), F[u] = F.getD u false := fun hj => by rw [List.getD_eq_getElem?_getD, List.getElem?_eq_getElem hj]; rfl
  refine List.ext_getElem (hlen.trans hfl.symm) fun u h1 h2 => ?_
  rw [g1 h1, g1 h2]
  have hu : u < o.length := by omega
  have e1 := Zet (E := fun a b => b ∈ nxN o x pl c a) (B := kp (bdK o p x pl c) o.length) (i := (kp (bdK o p x pl c) o.length).length) hu
  have e2 : (fromL ⟨o, p, x⟩ pl c).getD u false = !(aloneL (fromG ⟨o, p, x⟩ pl c) (1 - pl)).getD u false := by simp [fromL, List.getD_eq_getElem?_getD, hu]
  have e3 := Zcz (g := fromG ⟨o, p, x⟩ pl c) (pl := 1 - pl) (v := u) hu
  have key : (∃ j, j < (kp (bdK o p x pl c) o.length).length ∧ Rch (fun a b => b ∈ nxN o x pl c a) u ((kp (bdK o p x pl c) o.length).getD j 0)) ↔ alone (fromG ⟨o, p, x⟩ pl c) (1 - pl) u := by
    have hm1 : ∀ {a b : Nat}, Rch (fun a b => b ∈ nxN o x pl c a) a b → a < o.length → RchA (fromG ⟨o, p, x⟩ pl c).nxt a b ∧ b < o.length := fun {a b} h ha => by
      refine Rch.mapD (f := id) (D := fun v => v < o.length) (fun a b ha hab => ⟨?_, hEn a b ha hab⟩) h ha
      show b ∈ rws (fromG ⟨o, p, x⟩ pl c).nxt a
      rw [← Zdv ha]; exact hab
    have hm2 : ∀ {a b : Nat}, RchA (fromG ⟨o, p, x⟩ pl c).nxt a b → a < o.length → Rch (fun a b => b ∈ nxN o x pl c a) a b ∧ b < o.length := fun {a b} h ha => by
      refine Rch.mapD (f := id) (D := fun v => v < o.length) (fun a b ha hab => ?_) h ha
      have h3 : b ∈ nxN o x pl c a := by rw [Zdv (p := p) ha]; exact hab
      exact ⟨h3, hEn a b ha h3⟩
    constructor
    · rintro ⟨j, h3, h4⟩
      obtain ⟨k1, k2⟩ := Zh3 h3
      obtain ⟨b1, t, b2, b3⟩ := (Zgp k1).1 k2
      have hm := Int.emod_two_eq (p.getD ((kp (bdK o p x pl c) o.length).getD j 0) 0)
      obtain ⟨r1, r2⟩ := Rch.mapD (f := id) (D := fun v => v < o.length) (E' := Ed (rws (fromG ⟨o, p, x⟩ pl c).nxt) (okP p (p.getD ((kp (bdK o p x pl c) o.length).getD j 0) 0))) (fun a b ha hab => ⟨⟨by show b ∈ rws (fromG ⟨o, p, x⟩ pl c).nxt a; rw [← Zdv ha]; exact hab.1, hab.2⟩, hEn a b ha hab.1⟩) b3 (hEn _ _ k1 b2.1)
      refine ⟨_, k1, ⟨?_, t, ⟨?_, b2.2⟩, r1⟩, (hm1 h4 hu).1⟩
      · show p.getD _ 0 % 2 = 1 - pl
        exact om1 hp b1 hm
      · rw [← Zdv k1]; exact b2.1
    · rintro ⟨w, hw, ⟨h3, t, h4, h5⟩, h6⟩
      have hw : w < o.length := hw
      have h3 : p.getD w 0 % 2 = 1 - pl := h3
      have ht : t ∈ nxN o x pl c w := by rw [Zdv (p := p) hw]; exact h4.1
      obtain ⟨r1, r2⟩ := Rch.mapD (f := id) (D := fun v => v < o.length) (E' := Low (fun a b => b ∈ nxN o x pl c a) (fun v => p.getD v 0) w) (fun a b ha hab => by
        have h7 : b ∈ nxN o x pl c a := by rw [Zdv (p := p) ha]; exact hab.1
        exact ⟨⟨h7, hab.2⟩, hEn a b ha h7⟩) h5 (hEn _ _ hw ht)
      have hk : (bdK o p x pl c).getD w false = true := (Zgp hw).2 ⟨by
        generalize p.getD w 0 % 2 = z at *
        omega, t, ⟨ht, h4.2⟩, r1⟩
      obtain ⟨k1, k2⟩ := Zht hk hw
      exact ⟨_, k1, by rw [k2]; exact (hm2 h6 hu).1⟩
  cases e4 : (wnB o p x pl c).getD u false with
  | false =>
    rw [e2, e3.2 (key.1 (e1.1 e4))]; rfl
  | true =>
    rw [e2]
    cases e5 : (aloneL (fromG ⟨o, p, x⟩ pl c) (1 - pl)).getD u false with
    | false => rfl
    | true =>
      have := e1.2 (key.2 (e3.1 e5))
      have this : (wnB o p x pl c).getD u false = false := this
      rw [e4] at this; cases this
theorem Zee (l : List Int) : selI 0 l = l := rfl
theorem Zg1 (l : List (List Int)) : selII 0 l = l := rfl
theorem Zhq (l : Int) : selN 0 l = l := rfl
noncomputable def spIw : Nat → Option Spec
  | 29 => some chkS
  | 30 => some winhS
  | _ => none
theorem Zc3 : SpOK Try.prog spIw := by
  intro f S h
  unfold spIw at h
  split at h
  · cases h; exact Zey
  · cases h; exact winh_ok
  · cases h
set_option maxRecDepth 4000 in
set_option maxHeartbeats 4000000 in
theorem iwin_ok : FSpec Try.prog 16 rwinS := by
  refine Zba htb (fn := Try.f16) (by kernel_rfl) (by kernel_rfl) rfl (fun args r hS => ?_) (fun args r hS hob hl => ?_)
  · unfold rwinS at hS; split at hS <;> first | (cases hS; done) | (cases hS; exact Nat.le_of_ble_eq_true rfl)
  unfold rwinS at hS
  split at hS
  case h_2 => cases hS
  rename_i o p x pl c
  simp only [Option.some.injEq] at hS
  subst hS
  simp only [lenP, mkL, lim] at hl
  dsimp only at hob
  rcases Zgt ⟨o, p, x⟩ pl c with ⟨hv, hp, hf, ha⟩ | ha
  · have hH := Zg8 hv hf
    have hw := Zgy hH (by omega)
    repeat' first
      | with_reducible first | refine Zas ?_ | refine Zao ?_ | refine Zac ?_ | refine Zad ?_ | refine Zai ?_ | refine Zaq ?_ | refine Zah ?_ | refine Zak ?_ | refine Zar ?_ | refine Zat ?_ | refine Zap ?_ | refine Zam ?_ | refine Zaa ?_ | refine Zae ?_ | refine Zab ?_ | refine Zal ?_
      | ((with_reducible refine Zaj ?_ ?_); exact rfl)
      | ((with_reducible refine Zau ?_); refine Zan rfl ?_ ?_ <;> intro hb <;> (try simp only [zH] at hb))
      | ((with_reducible refine Zav 2 ?_ ?_); (· exact rfl); (first | refine Zaf htb hmz Zc3 (fun _ => false) rfl rfl ?_ | refine Zag hmo htb hmz Zc3 (fun _ => false) rfl rfl (by kernel_rfl) ?_); intro m' e' l' ob h; simp only [zE0, zE1, zE2, zE3, zE4, zE5, evp, evx, ev1, evLoad, evStore, evBin, isBoolK, forall_const, z38, tb, Nat.reduceAdd, Nat.reduceSub, Nat.reduceMul, Nat.reduceEqDiff, Nat.reduceLeDiff, Nat.reduceLT, Nat.reduceBEq, Nat.reduceBNe, ↓reduceIte, reduceIte, spIw, chkS, winhS] at h; obtain ⟨rfl, rfl, rfl, rfl⟩ := h; refine ⟨?_, ?_⟩)
      | ((with_reducible refine Ob.mk ?_); first | exact trivial | (intros; omega) | ((repeat' first | apply And.intro | (intro hg; have hg' := hg; try simp only [zH] at hg')) <;> first | assumption | omega | (simp only [zH]; omega)))
    rw [ha, Zee, Zee, Zee, Zg1, Zhq]
    repeat' first
      | with_reducible first | refine Zas ?_ | refine Zao ?_ | refine Zac ?_ | refine Zad ?_ | refine Zai ?_ | refine Zaq ?_ | refine Zah ?_ | refine Zak ?_ | refine Zar ?_ | refine Zat ?_ | refine Zap ?_ | refine Zam ?_ | refine Zaa ?_ | refine Zae ?_ | refine Zab ?_ | refine Zal ?_
      | ((with_reducible refine Zaj ?_ ?_); exact rfl)
      | ((with_reducible refine Zau ?_); refine Zan rfl ?_ ?_ <;> intro hb <;> (try simp only [zH] at hb))
      | ((with_reducible refine Zav 3 ?_ ?_); (· exact rfl); (with_reducible refine Zav 4 ?_ ?_); (· exact rfl); (first | refine Zaf htb hmz Zc3 (fun _ => false) rfl rfl ?_ | refine Zag hmo htb hmz Zc3 (fun _ => false) rfl rfl (by kernel_rfl) ?_); intro m' e' l' ob h; simp only [zE0, zE1, zE2, zE3, zE4, zE5, evp, evx, ev1, evLoad, evStore, evBin, isBoolK, forall_const, z38, tb, Nat.reduceAdd, Nat.reduceSub, Nat.reduceMul, Nat.reduceEqDiff, Nat.reduceLeDiff, Nat.reduceLT, Nat.reduceBEq, Nat.reduceBNe, ↓reduceIte, reduceIte, spIw, chkS, winhS] at h; obtain ⟨rfl, rfl, rfl, rfl⟩ := h; refine ⟨?_, ?_⟩)
      | ((with_reducible refine Ob.mk ?_); first | exact trivial | (intros; omega) | ((repeat' first | apply And.intro | (intro hg; have hg' := hg; try simp only [zH] at hg')) <;> first | assumption | omega | (simp only [zH]; omega)))
    · exact absurd hb (by decide)
    clear hb
    repeat' first
      | with_reducible first | refine Zas ?_ | refine Zao ?_ | refine Zac ?_ | refine Zad ?_ | refine Zai ?_ | refine Zaq ?_ | refine Zah ?_ | refine Zak ?_ | refine Zar ?_ | refine Zat ?_ | refine Zap ?_ | refine Zam ?_ | refine Zaa ?_ | refine Zae ?_ | refine Zab ?_ | refine Zal ?_
      | ((with_reducible refine Zaj ?_ ?_); exact rfl)
      | ((with_reducible refine Zau ?_); refine Zan rfl ?_ ?_ <;> intro hb <;> (try simp only [zH] at hb))
      | ((with_reducible refine Za0 ?_); (first | refine Zaf htb hmz Zc3 (fun _ => false) rfl rfl ?_ | refine Zag hmo htb hmz Zc3 (fun _ => false) rfl rfl (by kernel_rfl) ?_); intro m' e' l' ob h; simp only [zE0, zE1, zE2, zE3, zE4, zE5, evp, evx, ev1, evLoad, evStore, evBin, isBoolK, forall_const, z38, tb, Nat.reduceAdd, Nat.reduceSub, Nat.reduceMul, Nat.reduceEqDiff, Nat.reduceLeDiff, Nat.reduceLT, Nat.reduceBEq, Nat.reduceBNe, ↓reduceIte, reduceIte, spIw, chkS, winhS] at h; obtain ⟨rfl, rfl, rfl, rfl⟩ := h; refine ⟨?_, ?_⟩)
      | ((with_reducible refine Ob.mk ?_); first | exact trivial | (intros; omega) | ((repeat' first | apply And.intro | (intro hg; have hg' := hg; try simp only [zH] at hg')) <;> first | assumption | omega | (simp only [zH]; omega)))
    refine Zay rfl rfl (Zaw rfl ?_ rfl)
    rw [if_pos rfl, hw]
    rfl
  · repeat' first
      | with_reducible first | refine Zas ?_ | refine Zao ?_ | refine Zac ?_ | refine Zad ?_ | refine Zai ?_ | refine Zaq ?_ | refine Zah ?_ | refine Zak ?_ | refine Zar ?_ | refine Zat ?_ | refine Zap ?_ | refine Zam ?_ | refine Zaa ?_ | refine Zae ?_ | refine Zab ?_ | refine Zal ?_
      | ((with_reducible refine Zaj ?_ ?_); exact rfl)
      | ((with_reducible refine Zau ?_); refine Zan rfl ?_ ?_ <;> intro hb <;> (try simp only [zH] at hb))
      | ((with_reducible refine Zav 3 ?_ ?_); (· exact rfl); (with_reducible refine Zav 4 ?_ ?_); (· exact rfl); (first | refine Zaf htb hmz Zc3 (fun _ => false) rfl rfl ?_ | refine Zag hmo htb hmz Zc3 (fun _ => false) rfl rfl (by kernel_rfl) ?_); intro m' e' l' ob h; simp only [zE0, zE1, zE2, zE3, zE4, zE5, evp, evx, ev1, evLoad, evStore, evBin, isBoolK, forall_const, z38, tb, Nat.reduceAdd, Nat.reduceSub, Nat.reduceMul, Nat.reduceEqDiff, Nat.reduceLeDiff, Nat.reduceLT, Nat.reduceBEq, Nat.reduceBNe, ↓reduceIte, reduceIte, spIw, chkS, winhS] at h; obtain ⟨rfl, rfl, rfl, rfl⟩ := h; refine ⟨?_, ?_⟩)
      | ((with_reducible refine Ob.mk ?_); first | exact trivial | (intros; omega) | ((repeat' first | apply And.intro | (intro hg; have hg' := hg; try simp only [zH] at hg')) <;> first | assumption | omega | (simp only [zH]; omega)))
    · repeat' first
        | with_reducible first | refine Zas ?_ | refine Zao ?_ | refine Zac ?_ | refine Zad ?_ | refine Zai ?_ | refine Zaq ?_ | refine Zah ?_ | refine Zak ?_ | refine Zar ?_ | refine Zat ?_ | refine Zap ?_ | refine Zam ?_ | refine Zaa ?_ | refine Zae ?_ | refine Zab ?_ | refine Zal ?_
        | ((with_reducible refine Zaj ?_ ?_); exact rfl)
        | ((with_reducible refine Zau ?_); refine Zan rfl ?_ ?_ <;> intro hb <;> (try simp only [zH] at hb))
        | ((with_reducible refine Za0 ?_); (first | refine Zaf htb hmz Zc3 (fun _ => false) rfl rfl ?_ | refine Zag hmo htb hmz Zc3 (fun _ => false) rfl rfl (by kernel_rfl) ?_); intro m' e' l' ob h; simp only [zE0, zE1, zE2, zE3, zE4, zE5, evp, evx, ev1, evLoad, evStore, evBin, isBoolK, forall_const, z38, tb, Nat.reduceAdd, Nat.reduceSub, Nat.reduceMul, Nat.reduceEqDiff, Nat.reduceLeDiff, Nat.reduceLT, Nat.reduceBEq, Nat.reduceBNe, ↓reduceIte, reduceIte, spIw, chkS, winhS] at h; obtain ⟨rfl, rfl, rfl, rfl⟩ := h; refine ⟨?_, ?_⟩)
        | ((with_reducible refine Ob.mk ?_); first | exact trivial | (intros; omega) | ((repeat' first | apply And.intro | (intro hg; have hg' := hg; try simp only [zH] at hg')) <;> first | assumption | omega | (simp only [zH]; omega)))
      refine Zay rfl rfl (Zec rfl ?_ rfl)
      rw [if_neg ha]
      exact Zfo (Zb3 imp_nilB (Zbp rfl))
    exact absurd hb ha
end Go.Proofs.Ytbcghiagomkadaa.Cal
