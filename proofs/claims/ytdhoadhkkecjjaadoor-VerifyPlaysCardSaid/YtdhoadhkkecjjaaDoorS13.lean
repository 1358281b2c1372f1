/- Own texts, merged. -/
import Derived.Test.YtdhoadhkkecjjaaDoorS12
set_option linter.unusedVariables false
set_option linter.unusedSimpArgs false
open Nat (reduceAdd reduceSub reduceMul reduceEqDiff reduceLeDiff reduceLT)
namespace Go.Proofs.YtdhoadhkkecjjaaDoor.Cal
open Go Pl
def chF (c : List Int) (v : Nat) : Nat := (c.getD v 0).toNat
open Classical in
noncomputable def lp (c : List Int) (f : Nat) : Nat × Nat := if h : ∃ p : Nat × Nat, Ze5 (chF c) f p.1 p.2 then Classical.choose h else (0, 0)
def way (c : List Int) (f L : Nat) : List Int := (List.range L).map fun j => (orb (chF c) f j : Int)
def Zhq (p : List Int) (l : List Int) : Int := l.foldl (fun t u => max t (p.getD u.toNat 0)) 0
def OkCh (g : Gm) (c : List Int) : Prop := ∀ v, v < c.length → c.getD v 0 ∈ g.x v
structure PlayR where
  stem : List Int
  loop : List Int
  win : Int
  err : Int
open Classical in
noncomputable def Ze1 (g : Gm) (c : List Int) (f : Int) : PlayR :=
  if ¬ Zhz g then ⟨[], [], 0, 1⟩ else if c.length ≠ g.n then ⟨[], [], 0, 2⟩ else if f < 0 ∨ (g.n : Int) ≤ f then ⟨[], [], 0, 6⟩ else if ¬ OkCh g c then ⟨[], [], 0, 6⟩ else
    let L := (lp c f.toNat).1
    let k := (lp c f.toNat).2
    ⟨(way c f.toNat L).take k, (way c f.toNat L).drop k, Zhq g.pri ((way c f.toNat L).drop k) % 2, 0⟩
def PlayR.av (r : PlayR) : AV := .tup (.cons (.roI r.stem) (.cons (.roI r.loop) (.cons (.int .i64 r.win) (.cons (.int .i64 r.err) .nil))))
noncomputable def Zd1 : Spec
  | [.agg (.cons (.roI o) (.cons (.roI p) (.cons (.roII x) .nil))), .roI c, .int .i64 f] => some ⟨True, (Ze1 ⟨o, p, x⟩ c f).av, none⟩
  | _ => none
noncomputable def Zdc : Nat → Option Spec
  | 44 => some Zay
  | 41 => some Zav
  | 58 => some Zc4
  | _ => none
theorem Zcs : SpOK Tryd.prog Zdc := by
  intro f S h
  unfold Zdc at h
  split at h
  · cases h; exact Zfw
  · cases h; exact Zdk
  · cases h; exact clone_ok
  · cases h
theorem topOf_ge {p : List Int} : ∀ (l : List Int) (t : Int), t ≤ l.foldl (fun t u => max t (p.getD u.toNat 0)) t
  | [], t => Int.le_refl t
  | u :: l, t => Int.le_trans (Int.le_max_left _ _) (topOf_ge l _)
theorem topOf_nn {p l : List Int} : 0 ≤ Zhq p l := topOf_ge l 0
theorem topOf_succ {p l : List Int} {i : Nat} (h : i < l.length) : Zhq p (l.take (i + 1)) = max (Zhq p (l.take i)) (p.getD (l.getD i 0).toNat 0) := by
  unfold Zhq
  rw [List.take_add_one, List.getElem?_eq_getElem h, List.foldl_append]
  simp [List.getD_eq_getElem?_getD, List.getElem?_eq_getElem h]
theorem play_e1 {g : Gm} {c : List Int} {f : Int} (h : Zba g = false) : Ze1 g c f = ⟨[], [], 0, 1⟩ := by
  unfold Ze1; rw [if_pos]; intro hv; rw [Zdz hv] at h; cases h
theorem play_e2 {g : Gm} {c : List Int} {f : Int} (h : Zba g = true) (h2 : c.length ≠ g.n) : Ze1 g c f = ⟨[], [], 0, 2⟩ := by
  unfold Ze1; rw [if_neg (by simpa using validB_iff.1 h), if_pos h2]
theorem play_e3 {g : Gm} {c : List Int} {f : Int} (h : Zba g = true) (h2 : c.length = g.n) (h3 : f < 0 ∨ (g.n : Int) ≤ f) : Ze1 g c f = ⟨[], [], 0, 6⟩ := by
  unfold Ze1; rw [if_neg (by simpa using validB_iff.1 h), if_neg (by simpa using h2), if_pos h3]
theorem play_e4 {g : Gm} {c : List Int} {f : Int} (h : Zba g = true) (h2 : c.length = g.n) (h3 : ¬ (f < 0 ∨ (g.n : Int) ≤ f)) (h4 : ¬ OkCh g c) : Ze1 g c f = ⟨[], [], 0, 6⟩ := by
  unfold Ze1; rw [if_neg (by simpa using validB_iff.1 h), if_neg (by simpa using h2), if_neg h3, if_pos h4]
theorem Zh5 {g : Gm} {c : List Int} {f : Int} (h : Zba g = true) (h2 : c.length = g.n) (h3 : ¬ (f < 0 ∨ (g.n : Int) ≤ f)) (h4 : OkCh g c) {L k : Nat} (ha : Ze5 (chF c) f.toNat L k) :
    Ze1 g c f = ⟨(way c f.toNat L).take k, (way c f.toNat L).drop k, Zhq g.pri ((way c f.toNat L).drop k) % 2, 0⟩ := by
  have hl : lp c f.toNat = (L, k) := by
    unfold lp
    have hex : ∃ p : Nat × Nat, Ze5 (chF c) f.toNat p.1 p.2 := ⟨(L, k), ha⟩
    rw [dif_pos hex]
    have := again_unique (Classical.choose_spec hex) ha
    exact Prod.ext this.1 this.2
  unfold Ze1
  rw [if_neg (by simpa using validB_iff.1 h), if_neg (by simpa using h2), if_neg h3, if_neg (by simpa using h4), hl]
theorem Zfy {r : PlayR} {a b : AV} {w e : Int} (h1 : Imp a (.roI r.stem)) (h2 : Imp b (.roI r.loop)) (h3 : w = r.win) (h4 : e = r.err) : Imp (.tup (.cons a (.cons b (.cons (.int .i64 w) (.cons (.int .i64 e) .nil))))) r.av := by
  subst h3 h4
  exact Zgk (Zb3 h1 (Zb3 h2 (Zca rfl)))
def atF (c : List Int) (f n : Nat) : Nat → List Int
  | 0 => List.replicate n 0
  | k + 1 => (atF c f n k).set (orb (chF c) f k) (k + 1)
theorem Zib {c : List Int} {f n : Nat} : ∀ k, (atF c f n k).length = n
  | 0 => by simp [atF]
  | k + 1 => by simp [atF, Zib k]
theorem atF_get {c : List Int} {f n : Nat} (hn : ∀ j, orb (chF c) f j < n) : ∀ k, Zhp (chF c) f k → ∀ v, (∀ j, j < k → orb (chF c) f j = v → (atF c f n k).getD v 0 = j + 1) ∧ ((∀ j, j < k → orb (chF c) f j ≠ v) → (atF c f n k).getD v 0 = 0) := by
  intro k
  induction k with
  | zero => intro _ v; exact ⟨fun j hj => absurd hj (Nat.not_lt_zero _), fun _ => by simp only [atF, List.getD_eq_getElem?_getD, List.getElem?_replicate]; split <;> rfl⟩
  | succ k ih =>
    intro hf v
    obtain ⟨h1, h2⟩ := ih (fun i j hij hj => hf i j hij (by omega)) v
    have hset : (atF c f n (k + 1)).getD v 0 = if v = orb (chF c) f k then ((k : Int) + 1) else (atF c f n k).getD v 0 := Zfd (by rw [Zib]; exact hn k)
    rw [hset]
    refine ⟨fun j hj e => ?_, fun h => ?_⟩
    · by_cases hv : v = orb (chF c) f k
      · rw [if_pos hv]
        rcases Nat.lt_succ_iff_lt_or_eq.1 hj with h' | rfl
        · exact absurd (e.trans hv) (hf j k h' (by omega))
        · rfl
      · rw [if_neg hv]
        rcases Nat.lt_succ_iff_lt_or_eq.1 hj with h' | rfl
        · exact h1 j h' e
        · exact absurd e.symm hv
    · rw [if_neg (fun e => h k (by omega) e.symm)]
      exact h2 fun j hj => h j (by omega)
set_option maxRecDepth 4000 in
set_option maxHeartbeats 4000000 in
theorem play_ok : Zb2 Tryd.prog 46 Zd1 := by
  refine Za8 htb (fn := Tryd.f46) (by kernel_rfl) (by kernel_rfl) rfl (fun args r hS => ?_) (fun args r hS hob hl => ?_)
  · unfold Zd1 at hS; split at hS <;> first | (cases hS; done) | (cases hS; exact Nat.le_of_ble_eq_true rfl)
  unfold Zd1 at hS
  split at hS
  case h_2 => cases hS
  rename_i o p x c f
  simp only [Option.some.injEq] at hS
  subst hS
  simp only [lenP, mkL, lim] at hl
  dsimp only at hob
  repeat' first
    | with_reducible first | apply Zar | apply Zan | apply Zaa | apply Zac | apply Zah | apply Zap | apply Zag | apply Zaj | apply Zaq | apply Zas | apply Zao | apply Zal | apply Zab | apply Zak
    | ((with_reducible refine Zai ?_ ?_); exact rfl) | ((with_reducible refine Zat ?_); refine Zam rfl ?_ ?_ <;> intro hb <;> (try simp only [zH] at hb)) | ((with_reducible refine Zaz ?_); (first | refine Zaf htb hmz Zcs fF rfl rfl ?_ | refine Zae hmo htb hmz Zcs fF rfl rfl (by kernel_rfl) ?_); intro _ _ _ _ h; simp only [zE, evp, evx, ev1, evLoad, evStore, evBin, evIf, Zad, forall_const, z38, tb, reduceAdd, reduceSub, reduceMul, reduceEqDiff, reduceLeDiff, reduceLT, Nat.reduceBEq, Nat.reduceBNe, ↓reduceIte, reduceIte, Zdc, Zay, Zav, Zc4] at h; obtain ⟨rfl, rfl, rfl, rfl⟩ := h; refine ⟨?_, ?_⟩) | ((with_reducible refine Ob.mk ?_); first | exact trivial | (intros; omega) | ((repeat' first | apply And.intro | (intro a; have b := a; try simp only [zH] at b)) <;> first | assumption | omega | (simp only [zH]; omega)))
  · refine Zax rfl rfl (Zcg rfl ?_ rfl)
    rw [play_e1 hb]
    exact Zfy Zb0 Zb0 rfl rfl
  · rename_i hv
    refine Zax rfl rfl (Zcg rfl ?_ rfl)
    rw [play_e2 hv (by simp only [Gm.n]; omega)]
    exact Zfy Zb0 Zb0 rfl rfl
  · rename_i hv hc
    refine Zax rfl rfl (Zcg rfl ?_ rfl)
    rw [play_e3 hv (by simp only [Gm.n]; omega) hb]
    exact Zfy Zb0 Zb0 rfl rfl
  rename_i hv hc
  have hV := validB_iff.1 hv
  obtain ⟨hn, hpl, hxl, hpos⟩ := id hV
  simp only [Gm.n] at hn hpl hxl
  have hcl : c.length = o.length := by omega
  refine Za5 (τ := Nat) (fun i => i ≤ c.length ∧ ∀ v, v < i → c.getD v 0 ∈ x.getD v []) (fun i => ⟨29, [(42, .int .i64 i), (41, .int .i64 c.length), (40, .roI c), (1, .roI c), (2, .int .i64 f), (3, .rop (.agg (.cons (.roI o) (.cons (.roI p) (.cons (.roII x) .nil)))))], [], []⟩) (fun i => c.length - i) 0 [] ⟨rfl, by simp [zE, evp, evx, ev1, evLoad, evStore, evBin, evIf, Zad, forall_const, z38, tb, reduceAdd, reduceSub, reduceMul, reduceEqDiff, reduceLeDiff, reduceLT, Nat.reduceBEq, Nat.reduceBNe, ↓reduceIte, reduceIte, Zdc, Zay, Zav, Zc4], by simp only [zE, evp, evx, ev1, evLoad, evStore, evBin, evIf, Zad, forall_const, z38, tb, reduceAdd, reduceSub, reduceMul, reduceEqDiff, reduceLeDiff, reduceLT, Nat.reduceBEq, Nat.reduceBNe, ↓reduceIte, reduceIte, Zdc, Zay, Zav, Zc4]⟩ ⟨by omega, by omega⟩ ?_
  rintro i ⟨hi, hj⟩
  repeat' first
    | with_reducible first | apply Zar | apply Zan | apply Zaa | apply Zac | apply Zah | apply Zap | apply Zag | apply Zaj | apply Zaq | apply Zas | apply Zao | apply Zal | apply Zab | apply Zak
    | ((with_reducible refine Zai ?_ ?_); exact rfl) | ((with_reducible refine Zat ?_); refine Zam rfl ?_ ?_ <;> intro hb <;> (try simp only [zH] at hb)) | ((with_reducible refine Zaz ?_); (first | refine Zaf htb hmz Zcs fF rfl rfl ?_ | refine Zae hmo htb hmz Zcs fF rfl rfl (by kernel_rfl) ?_); intro _ _ _ _ h; simp only [zE, evp, evx, ev1, evLoad, evStore, evBin, evIf, Zad, forall_const, z38, tb, reduceAdd, reduceSub, reduceMul, reduceEqDiff, reduceLeDiff, reduceLT, Nat.reduceBEq, Nat.reduceBNe, ↓reduceIte, reduceIte, Zdc, Zay, Zav, Zc4] at h; obtain ⟨rfl, rfl, rfl, rfl⟩ := h; refine ⟨?_, ?_⟩) | ((with_reducible refine Ob.mk ?_); first | exact trivial | (intros; omega) | ((repeat' first | apply And.intro | (intro a; have b := a; try simp only [zH] at b)) <;> first | assumption | omega | (simp only [zH]; omega)))
  · rename_i hlt
    refine Zax rfl rfl (Zcg rfl ?_ rfl)
    rw [play_e4 hv (by simp only [Gm.n]; omega) (by simp only [Gm.n]; omega) (fun hok => by
      have := hok i (by omega)
      simp only [Gm.x] at this
      exact absurd this (by simpa using hb))]
    exact Zfy Zb0 Zb0 rfl rfl
  · refine back (i + 1) [] ?_ ⟨by omega, fun v hv' => ?_⟩ (by omega)
    · (refine ⟨rfl, ?_, ?_⟩ <;> simp only [zE, evp, evx, ev1, evLoad, evStore, evBin, evIf, Zad, forall_const, z38, tb, reduceAdd, reduceSub, reduceMul, reduceEqDiff, reduceLeDiff, reduceLT, Nat.reduceBEq, Nat.reduceBNe, ↓reduceIte, reduceIte, Zdc, Zay, Zav, Zc4, zI])
    · rcases Nat.lt_succ_iff_lt_or_eq.1 hv' with h | rfl
      · exact hj v h
      · simpa using hb
  have hok' : OkCh ⟨o, p, x⟩ c := fun v hv' => hj v (by omega)
  have hch : ∀ v, v < o.length → 0 ≤ c.getD v 0 ∧ c.getD v 0 < o.length := by
    intro v hv'
    have hm := hok' v (by omega)
    obtain ⟨_, hrow⟩ := hpos v (by simp only [Gm.n]; omega)
    obtain ⟨j, hj', e⟩ := List.getElem_of_mem hm
    obtain ⟨r1, r2, _⟩ := hrow j hj'
    simp only [Gm.n] at r2
    rw [List.getD_eq_getElem?_getD, List.getElem?_eq_getElem hj', Option.getD_some, e] at r1 r2
    exact ⟨r1, r2⟩
  have horb : ∀ j, orb (chF c) f.toNat j < o.length := by
    intro j
    induction j with
    | zero => show f.toNat < _; omega
    | succ j ih => show (c.getD (orb (chF c) f.toNat j) 0).toNat < _; have := hch _ ih; omega
  refine Zfs 13 (.ints []) (by simp only [zE, evp, evx, ev1, evLoad, evStore, evBin, evIf, Zad, forall_const, z38, tb, reduceAdd, reduceSub, reduceMul, reduceEqDiff, reduceLeDiff, reduceLT, Nat.reduceBEq, Nat.reduceBNe, ↓reduceIte, reduceIte, Zdc, Zay, Zav, Zc4]) (.inl rfl) rfl ?_
  refine Za5 (τ := Nat) (fun k => Zhp (chF c) f.toNat k) (fun k => ⟨39, [(14, .int .i64 (orb (chF c) f.toNat k)), (13, .own 38), (12, .own 33), (1, .roI c), (3, .rop (.agg (.cons (.roI o) (.cons (.roI p) (.cons (.roII x) .nil)))))], [(33, some (.ints (atF c f.toNat o.length k))), (38, some (.ints (way c f.toNat k)))], []⟩) (fun k => o.length - k) 0 [] ⟨rfl, ?_, ?_⟩ (fun i j _ hj => absurd hj (Nat.not_lt_zero j)) ?_
  · simp only [zE, evp, evx, ev1, evLoad, evStore, evBin, evIf, Zad, forall_const, z38, tb, reduceAdd, reduceSub, reduceMul, reduceEqDiff, reduceLeDiff, reduceLT, Nat.reduceBEq, Nat.reduceBNe, ↓reduceIte, reduceIte, Zdc, Zay, Zav, Zc4, zI, orb]; omega
  · simp only [zE, evp, evx, ev1, evLoad, evStore, evBin, evIf, Zad, forall_const, z38, tb, reduceAdd, reduceSub, reduceMul, reduceEqDiff, reduceLeDiff, reduceLT, Nat.reduceBEq, Nat.reduceBNe, ↓reduceIte, reduceIte, Zdc, Zay, Zav, Zc4, zI]; exact ⟨rfl, rfl⟩
  intro k hf
  have hkn := Zd3 horb hf
  have hok := horb k
  have hl1 : (atF c f.toNat o.length k).length = o.length := Zib k
  have hl2 : (way c f.toNat k).length = k := by simp [way]
  have hget := atF_get horb k hf (orb (chF c) f.toNat k)
  repeat' first
    | with_reducible first | apply Zar | apply Zan | apply Zaa | apply Zac | apply Zah | apply Zap | apply Zag | apply Zaq | apply Zas | apply Zao | apply Zal | apply Zab | apply Zak
    | ((with_reducible refine Zai ?_ ?_); exact rfl) | ((with_reducible refine Zat ?_); refine Zam rfl ?_ ?_ <;> intro hb <;> (try simp only [zH] at hb)) | ((with_reducible refine Zaz ?_); (first | refine Zaf htb hmz Zcs fF rfl rfl ?_ | refine Zae hmo htb hmz Zcs fF rfl rfl (by kernel_rfl) ?_); intro _ _ _ _ h; simp only [zE, evp, evx, ev1, evLoad, evStore, evBin, evIf, Zad, forall_const, z38, tb, reduceAdd, reduceSub, reduceMul, reduceEqDiff, reduceLeDiff, reduceLT, Nat.reduceBEq, Nat.reduceBNe, ↓reduceIte, reduceIte, Zdc, Zay, Zav, Zc4] at h; obtain ⟨rfl, rfl, rfl, rfl⟩ := h; refine ⟨?_, ?_⟩) | ((with_reducible refine Ob.mk ?_); first | exact trivial | (intros; omega) | ((repeat' first | apply And.intro | (intro a; have b := a; try simp only [zH] at b)) <;> first | assumption | omega | (simp only [zH]; omega)))
  · have hex : ∃ j, j < k ∧ orb (chF c) f.toNat j = orb (chF c) f.toNat k := by
      refine Classical.byContradiction fun hne => ?_
      have := hget.2 fun j hj e => hne ⟨j, hj, e⟩
      omega
    obtain ⟨j, hj, e⟩ := hex
    have hat := hget.1 j hj e
    have hag : Ze5 (chF c) f.toNat k j := ⟨hf, hj, e.symm⟩
    refine Zaj (Zaa ?_)
    refine Zei 38 (.roI (way c f.toNat k)) (by simp only [Zbb, Zbu, fzE, fzA, fzR, fzB, set1, nbeq, reduceEqDiff, decide_true, decide_false, ↓reduceIte, reduceIte, cond_true, cond_false, List.take_length, Option.some.injEq]; rfl) (by first | exact rfl | (refine ⟨?_, rfl⟩; first | rfl | (intros; rfl))) (by simp only [Zbb, Zbu, fzE, fzA, fzR, fzB, set1, nbeq, reduceEqDiff, decide_true, decide_false, ↓reduceIte, reduceIte, cond_true, cond_false, List.take_length, Option.some.injEq]; rfl) (by simp only [Zbb, Zbu, fzE, fzA, fzR, fzB, set1, nbeq, reduceEqDiff, decide_true, decide_false, ↓reduceIte, reduceIte, cond_true, cond_false, List.take_length, Option.some.injEq]; rfl) ?_
    repeat' first
      | with_reducible first | apply Zar | apply Zan | apply Zaa | apply Zac | apply Zah | apply Zap | apply Zag | apply Zaj | apply Zaq | apply Zas | apply Zao | apply Zal | apply Zab | apply Zak
      | ((with_reducible refine Zai ?_ ?_); exact rfl) | ((with_reducible refine Zat ?_); refine Zam rfl ?_ ?_ <;> intro hb <;> (try simp only [zH] at hb)) | ((with_reducible refine Zaz ?_); (first | refine Zaf htb hmz Zcs fF rfl rfl ?_ | refine Zae hmo htb hmz Zcs fF rfl rfl (by kernel_rfl) ?_); intro _ _ _ _ h; simp only [zE, evp, evx, ev1, evLoad, evStore, evBin, evIf, Zad, forall_const, z38, tb, reduceAdd, reduceSub, reduceMul, reduceEqDiff, reduceLeDiff, reduceLT, Nat.reduceBEq, Nat.reduceBNe, ↓reduceIte, reduceIte, Zdc, Zay, Zav, Zc4] at h; obtain ⟨rfl, rfl, rfl, rfl⟩ := h; refine ⟨?_, ?_⟩) | ((with_reducible refine Ob.mk ?_); first | exact trivial | (intros; omega) | ((repeat' first | apply And.intro | (intro a; have b := a; try simp only [zH] at b)) <;> first | assumption | omega | (simp only [zH]; omega)))
    have hj1 : ((atF c f.toNat o.length k).getD (orb (chF c) f.toNat k) 0 - 1) = (j : Int) := by omega
    rw [hj1, Int.toNat_natCast]
    have hwp : ∀ u, u ∈ (way c f.toNat k).drop j → 0 ≤ u ∧ u < o.length := by
      intro u hu
      have hu := List.mem_of_mem_drop hu
      simp only [way, List.mem_map, List.mem_range] at hu
      obtain ⟨q, _, rfl⟩ := hu
      have := horb q
      omega
    have hlen : ((way c f.toNat k).drop j).length ≤ 20000 := by rw [List.length_drop, hl2]; omega
    generalize hlq : (way c f.toNat k).drop j = lq at *
    refine Za5 (τ := Nat) (fun i => i ≤ lq.length) (fun i => ⟨56, [(88, .int .i64 i), (87, .int .i64 lq.length), (86, .roI lq), (16, .int .i64 (Zhq p (lq.take i))), (15, .int .i64 j), (13, .roI (way c f.toNat k)), (3, .rop (.agg (.cons (.roI o) (.cons (.roI p) (.cons (.roII x) .nil)))))], [], []⟩) (fun i => lq.length - i) 0 [] ⟨rfl, by simp [zE, evp, evx, ev1, evLoad, evStore, evBin, evIf, Zad, forall_const, z38, tb, reduceAdd, reduceSub, reduceMul, reduceEqDiff, reduceLeDiff, reduceLT, Nat.reduceBEq, Nat.reduceBNe, ↓reduceIte, reduceIte, Zdc, Zay, Zav, Zc4, Zhq], by simp only [zE, evp, evx, ev1, evLoad, evStore, evBin, evIf, Zad, forall_const, z38, tb, reduceAdd, reduceSub, reduceMul, reduceEqDiff, reduceLeDiff, reduceLT, Nat.reduceBEq, Nat.reduceBNe, ↓reduceIte, reduceIte, Zdc, Zay, Zav, Zc4]⟩ (by omega) ?_
    intro i hi
    have hui : i < lq.length → 0 ≤ lq.getD i 0 ∧ lq.getD i 0 < o.length := fun h => hwp _ (Zhf h)
    have htn := topOf_nn (p := p) (l := lq.take i)
    have hld : ((way c f.toNat k).drop j).length ≤ 20000 := by rw [hlq]; omega
    have hlt : ((way c f.toNat k).take j).length ≤ 20000 := by rw [List.length_take, hl2]; omega
    repeat' first
      | with_reducible first | apply Zar | apply Zan | apply Zaa | apply Zac | apply Zah | apply Zap | apply Zag | apply Zaj | apply Zaq | apply Zas | apply Zao | apply Zal | apply Zab | apply Zak
      | ((with_reducible refine Zai ?_ ?_); exact rfl) | ((with_reducible refine Zat ?_); refine Zam rfl ?_ ?_ <;> intro hb <;> (try simp only [zH] at hb)) | ((with_reducible refine Zaz ?_); (first | refine Zaf htb hmz Zcs fF rfl rfl ?_ | refine Zae hmo htb hmz Zcs fF rfl rfl (by kernel_rfl) ?_); intro _ _ _ _ h; simp only [zE, evp, evx, ev1, evLoad, evStore, evBin, evIf, Zad, forall_const, z38, tb, reduceAdd, reduceSub, reduceMul, reduceEqDiff, reduceLeDiff, reduceLT, Nat.reduceBEq, Nat.reduceBNe, ↓reduceIte, reduceIte, Zdc, Zay, Zav, Zc4] at h; obtain ⟨rfl, rfl, rfl, rfl⟩ := h; refine ⟨?_, ?_⟩) | ((with_reducible refine Ob.mk ?_); first | exact trivial | (intros; omega) | ((repeat' first | apply And.intro | (intro a; have b := a; try simp only [zH] at b)) <;> first | assumption | omega | (simp only [zH]; omega)))
    · refine back (i + 1) [] ?_ (by omega) (by omega)
      (refine ⟨rfl, ?_, ?_⟩ <;> simp only [zE, evp, evx, ev1, evLoad, evStore, evBin, evIf, Zad, forall_const, z38, tb, reduceAdd, reduceSub, reduceMul, reduceEqDiff, reduceLeDiff, reduceLT, Nat.reduceBEq, Nat.reduceBNe, ↓reduceIte, reduceIte, Zdc, Zay, Zav, Zc4, zI])
      rw [topOf_succ (by omega)]
    · refine Zax rfl rfl (Zaw rfl ?_ rfl)
      show AV.tup _ = _
      have hi' : i = lq.length := by omega
      subst hi'
      rw [Zh5 hv (by simp only [Gm.n]; omega) (by simp only [Gm.n]; omega) hok' hag]
      simp only [PlayR.av, hlq, List.take_length, mkL]
      rfl
  · have hnew : ∀ i, i < k → orb (chF c) f.toNat i ≠ orb (chF c) f.toNat k := by
      intro i hi e
      have := hget.1 i hi e
      omega
    have hc2 := hch _ (horb k)
    refine back (k + 1) [(38, 47)] ?_ (Zdx hf hnew) ?_
    · (refine ⟨rfl, ?_, ?_⟩ <;> simp only [zE, evp, evx, ev1, evLoad, evStore, evBin, evIf, Zad, forall_const, z38, tb, reduceAdd, reduceSub, reduceMul, reduceEqDiff, reduceLeDiff, reduceLT, Nat.reduceBEq, Nat.reduceBNe, ↓reduceIte, reduceIte, Zdc, Zay, Zav, Zc4, zI])
      · show (((c.getD (orb (chF c) f.toNat k) 0).toNat : Nat) : Int) = _
        omega
      · refine ⟨?_, ?_⟩
        · simp only [atF, List.length_append, List.length_cons, List.length_nil, hl2]; rfl
        · simp [way, List.range_succ]
    · have := Zd3 horb (Zdx hf hnew)
      omega
open Go Pl
open Classical in
noncomputable def Zeg (g : Gm) (pl : Int) (c : List Int) : Bool := decide (c.length = g.own.length ∧ ∀ v, v < g.own.length → (g.own.getD v 0 = pl → c.getD v 0 ∈ g.nxt.getD v []) ∧ (g.own.getD v 0 ≠ pl → c.getD v 0 = -1))
noncomputable def Zb1 : Spec
  | [.agg (.cons (.roI o) (.cons (.roI p) (.cons (.roII x) .nil))), .int .i64 pl, .roI c] => some ⟨Zba ⟨o, p, x⟩ = true, .bool (Zeg ⟨o, p, x⟩ pl c), none⟩
  | _ => none
noncomputable def spFu : Nat → Option Spec
  | 31 => some hasS
  | _ => none
theorem Zdg : SpOK Tryd.prog spFu := by
  intro f S h
  unfold spFu at h
  split at h
  · cases h; exact Zhe
  · cases h
set_option maxRecDepth 4000 in
set_option maxHeartbeats 4000000 in
theorem full_ok : Zb2 Tryd.prog 47 Zb1 := by
  refine Za8 htb (fn := Tryd.f47) (by kernel_rfl) (by kernel_rfl) rfl (fun args r hS => ?_) (fun args r hS hob hl => ?_)
  · unfold Zb1 at hS; split at hS <;> first | (cases hS; done) | (cases hS; exact Nat.le_of_ble_eq_true rfl)
  unfold Zb1 at hS
  split at hS
  case h_2 => cases hS
  rename_i o p x pl c
  simp only [Option.some.injEq] at hS
  subst hS
  simp only [lenP, mkL, lim] at hl
  dsimp only at hob
  have hG := gok (validB_iff.1 hob)
  have hpl : p.length = o.length := hG.pl
  have hxl : x.length = o.length := hG.xl
  have hn : o.length ≤ 20000 := hG.n
  have hno : ∀ v, v < o.length → ¬ ((o.getD v 0 = pl → c.getD v 0 ∈ x.getD v []) ∧ (o.getD v 0 ≠ pl → c.getD v 0 = -1)) → Zeg ⟨o, p, x⟩ pl c = false := fun v hv h => decide_eq_false fun h2 => h (h2.2 v hv)
  repeat' first
    | with_reducible first | apply Zar | apply Zan | apply Zaa | apply Zac | apply Zah | apply Zap | apply Zag | apply Zaj | apply Zaq | apply Zas | apply Zao | apply Zal | apply Zab | apply Zak
    | ((with_reducible refine Zai ?_ ?_); exact rfl) | ((with_reducible refine Zat ?_); refine Zam rfl ?_ ?_ <;> intro hb <;> (try simp only [zH] at hb)) | ((with_reducible refine Zau 2 ?_ ?_); (· exact rfl); (with_reducible refine Zau 3 ?_ ?_); (· exact rfl); (first | refine Zaf htb hmz Zdg fF rfl rfl ?_ | refine Zae hmo htb hmz Zdg fF rfl rfl (by kernel_rfl) ?_); intro _ _ _ _ h; simp only [zE, evp, evx, ev1, evLoad, evStore, evBin, evIf, Zad, forall_const, z38, tb, reduceAdd, reduceSub, reduceMul, reduceEqDiff, reduceLeDiff, reduceLT, Nat.reduceBEq, Nat.reduceBNe, ↓reduceIte, reduceIte, spFu, hasS] at h; obtain ⟨rfl, rfl, rfl, rfl⟩ := h; refine ⟨?_, ?_⟩) | ((with_reducible refine Ob.mk ?_); first | exact trivial | (intros; omega) | ((repeat' first | apply And.intro | (intro a; have b := a; try simp only [zH] at b)) <;> first | assumption | omega | (simp only [zH]; omega)))
  · have hcb : Zeg ⟨o, p, x⟩ pl c = false := decide_eq_false fun h => by
      have h1 : c.length = o.length := h.1
      omega
    repeat' first
      | with_reducible first | apply Zar | apply Zan | apply Zaa | apply Zac | apply Zah | apply Zap | apply Zag | apply Zaj | apply Zaq | apply Zas | apply Zao | apply Zal | apply Zab | apply Zak
      | ((with_reducible refine Zai ?_ ?_); exact rfl) | ((with_reducible refine Zat ?_); refine Zam rfl ?_ ?_ <;> intro hb <;> (try simp only [zH] at hb)) | ((with_reducible refine Zaz ?_); (first | refine Zaf htb hmz Zdg fF rfl rfl ?_ | refine Zae hmo htb hmz Zdg fF rfl rfl (by kernel_rfl) ?_); intro _ _ _ _ h; simp only [zE, evp, evx, ev1, evLoad, evStore, evBin, evIf, Zad, forall_const, z38, tb, reduceAdd, reduceSub, reduceMul, reduceEqDiff, reduceLeDiff, reduceLT, Nat.reduceBEq, Nat.reduceBNe, ↓reduceIte, reduceIte, spFu, hasS] at h; obtain ⟨rfl, rfl, rfl, rfl⟩ := h; refine ⟨?_, ?_⟩) | ((with_reducible refine Ob.mk ?_); first | exact trivial | (intros; omega) | ((repeat' first | apply And.intro | (intro a; have b := a; try simp only [zH] at b)) <;> first | assumption | omega | (simp only [zH]; omega)))
    refine Zax rfl rfl (Zaw rfl ?_ rfl)
    rw [hcb]; rfl
  have hcl : c.length = o.length := by omega
  clear hb
  have hrl : ∀ v, v < o.length → (x.getD v []).length ≤ 64 := fun v h => (hG.len v h).2
  repeat' first
    | with_reducible first | apply Zar | apply Zan | apply Zaa | apply Zac | apply Zah | apply Zap | apply Zag | apply Zaj | apply Zaq | apply Zas | apply Zao | apply Zal | apply Zab | apply Zak
    | ((with_reducible refine Zai ?_ ?_); exact rfl) | ((with_reducible refine Zat ?_); refine Zam rfl ?_ ?_ <;> intro hb <;> (try simp only [zH] at hb)) | ((with_reducible refine Zaz ?_); (first | refine Zaf htb hmz Zdg fF rfl rfl ?_ | refine Zae hmo htb hmz Zdg fF rfl rfl (by kernel_rfl) ?_); intro _ _ _ _ h; simp only [zE, evp, evx, ev1, evLoad, evStore, evBin, evIf, Zad, forall_const, z38, tb, reduceAdd, reduceSub, reduceMul, reduceEqDiff, reduceLeDiff, reduceLT, Nat.reduceBEq, Nat.reduceBNe, ↓reduceIte, reduceIte, spFu, hasS] at h; obtain ⟨rfl, rfl, rfl, rfl⟩ := h; refine ⟨?_, ?_⟩) | ((with_reducible refine Ob.mk ?_); first | exact trivial | (intros; omega) | ((repeat' first | apply And.intro | (intro a; have b := a; try simp only [zH] at b)) <;> first | assumption | omega | (simp only [zH]; omega)))
  refine Za5 (τ := Nat) (fun i => i ≤ o.length ∧ ∀ v, v < i → (o.getD v 0 = pl → c.getD v 0 ∈ x.getD v []) ∧ (o.getD v 0 ≠ pl → c.getD v 0 = -1)) (fun i => ⟨18, [(17, .int .i64 i), (16, .int .i64 c.length), (15, .roI c), (1, .int .i64 pl), (3, (.rop (.agg (.cons (.roI o) (.cons (.roI p) (.cons (.roII x) .nil))))))], [], []⟩) (fun i => o.length - i) 0 [] ?_ ⟨Nat.zero_le _, fun v hv => absurd hv (Nat.not_lt_zero v)⟩ ?_
  · (refine ⟨rfl, ?_, ?_⟩ <;> simp only [zE, evp, evx, ev1, evLoad, evStore, evBin, evIf, Zad, forall_const, z38, tb, reduceAdd, reduceSub, reduceMul, reduceEqDiff, reduceLeDiff, reduceLT, Nat.reduceBEq, Nat.reduceBNe, ↓reduceIte, reduceIte, spFu, hasS, zI])
  rintro i ⟨hi, hk⟩
  have hno1 := hno i
  have hrl1 := hrl i
  clear hno hrl
  repeat' first
    | with_reducible first | apply Zar | apply Zan | apply Zaa | apply Zac | apply Zah | apply Zap | apply Zag | apply Zaj | apply Zaq | apply Zas | apply Zao | apply Zal | apply Zab | apply Zak
    | ((with_reducible refine Zai ?_ ?_); exact rfl) | ((with_reducible refine Zat ?_); refine Zam rfl ?_ ?_ <;> intro hb <;> (try simp only [zH] at hb)) | ((with_reducible refine Zau 7 ?_ ?_); (· exact rfl); (with_reducible refine Zau 9 ?_ ?_); (· exact rfl); (first | refine Zaf htb hmz Zdg fF rfl rfl ?_ | refine Zae hmo htb hmz Zdg fF rfl rfl (by kernel_rfl) ?_); intro _ _ _ _ h; simp only [zE, evp, evx, ev1, evLoad, evStore, evBin, evIf, Zad, forall_const, z38, tb, reduceAdd, reduceSub, reduceMul, reduceEqDiff, reduceLeDiff, reduceLT, Nat.reduceBEq, Nat.reduceBNe, ↓reduceIte, reduceIte, spFu, hasS] at h; obtain ⟨rfl, rfl, rfl, rfl⟩ := h; refine ⟨?_, ?_⟩) | ((with_reducible refine Ob.mk ?_); first | exact trivial | (intros; omega) | ((repeat' first | apply And.intro | (intro a; have b := a; try simp only [zH] at b)) <;> first | assumption | omega | (simp only [zH]; omega)))
  · rw [hno1 (by omega) fun h => by
      rcases hb with ⟨h1, h2⟩ | ⟨h1, h2⟩
      · exact h2 (h.1 h1)
      · exact h2 (h.2 h1)]
    repeat' first
      | with_reducible first | apply Zar | apply Zan | apply Zaa | apply Zac | apply Zah | apply Zap | apply Zag | apply Zaj | apply Zaq | apply Zas | apply Zao | apply Zal | apply Zab | apply Zak
      | ((with_reducible refine Zai ?_ ?_); exact rfl) | ((with_reducible refine Zat ?_); refine Zam rfl ?_ ?_ <;> intro hb <;> (try simp only [zH] at hb)) | ((with_reducible refine Zaz ?_); (first | refine Zaf htb hmz Zdg fF rfl rfl ?_ | refine Zae hmo htb hmz Zdg fF rfl rfl (by kernel_rfl) ?_); intro _ _ _ _ h; simp only [zE, evp, evx, ev1, evLoad, evStore, evBin, evIf, Zad, forall_const, z38, tb, reduceAdd, reduceSub, reduceMul, reduceEqDiff, reduceLeDiff, reduceLT, Nat.reduceBEq, Nat.reduceBNe, ↓reduceIte, reduceIte, spFu, hasS] at h; obtain ⟨rfl, rfl, rfl, rfl⟩ := h; refine ⟨?_, ?_⟩) | ((with_reducible refine Ob.mk ?_); first | exact trivial | (intros; omega) | ((repeat' first | apply And.intro | (intro a; have b := a; try simp only [zH] at b)) <;> first | assumption | omega | (simp only [zH]; omega)))
    refine Zax rfl rfl (Zaw rfl ?_ rfl)
    rfl
  · refine back (i + 1) [] ?_ ⟨by omega, fun v hv => ?_⟩ (by omega)
    · (refine ⟨rfl, ?_, ?_⟩ <;> simp only [zE, evp, evx, ev1, evLoad, evStore, evBin, evIf, Zad, forall_const, z38, tb, reduceAdd, reduceSub, reduceMul, reduceEqDiff, reduceLeDiff, reduceLT, Nat.reduceBEq, Nat.reduceBNe, ↓reduceIte, reduceIte, spFu, hasS, zI])
    · rcases Nat.lt_succ_iff_lt_or_eq.1 hv with h | rfl
      · exact hk v h
      · refine ⟨fun h => ?_, fun h => ?_⟩
        · exact hb.1.resolve_left (fun h2 => h2 h)
        · exact hb.2.resolve_left h
  have hie : i = o.length := by omega
  subst hie
  repeat' first
    | with_reducible first | apply Zar | apply Zan | apply Zaa | apply Zac | apply Zah | apply Zap | apply Zag | apply Zaj | apply Zaq | apply Zas | apply Zao | apply Zal | apply Zab | apply Zak
    | ((with_reducible refine Zai ?_ ?_); exact rfl) | ((with_reducible refine Zat ?_); refine Zam rfl ?_ ?_ <;> intro hb <;> (try simp only [zH] at hb)) | ((with_reducible refine Zaz ?_); (first | refine Zaf htb hmz Zdg fF rfl rfl ?_ | refine Zae hmo htb hmz Zdg fF rfl rfl (by kernel_rfl) ?_); intro _ _ _ _ h; simp only [zE, evp, evx, ev1, evLoad, evStore, evBin, evIf, Zad, forall_const, z38, tb, reduceAdd, reduceSub, reduceMul, reduceEqDiff, reduceLeDiff, reduceLT, Nat.reduceBEq, Nat.reduceBNe, ↓reduceIte, reduceIte, spFu, hasS] at h; obtain ⟨rfl, rfl, rfl, rfl⟩ := h; refine ⟨?_, ?_⟩) | ((with_reducible refine Ob.mk ?_); first | exact trivial | (intros; omega) | ((repeat' first | apply And.intro | (intro a; have b := a; try simp only [zH] at b)) <;> first | assumption | omega | (simp only [zH]; omega)))
  refine Zax rfl rfl (Zaw rfl ?_ rfl)
  have hcb : Zeg ⟨o, p, x⟩ pl c = true := decide_eq_true ⟨hcl, hk⟩
  rw [hcb]
  rfl
open Go Pl
noncomputable def spSt : Nat → Option Spec
  | 41 => some Zav
  | _ => none
theorem Zc1 : SpOK Tryd.prog spSt := by
  intro f S h
  unfold spSt at h
  split at h
  · cases h; exact Zdk
  · cases h
set_option maxRecDepth 4000 in
set_option maxHeartbeats 4000000 in
theorem strat_ok : Zb2 Tryd.prog 45 Zb1 := by
  refine Za8 htb (fn := Tryd.f45) (by kernel_rfl) (by kernel_rfl) rfl (fun args r hS => ?_) (fun args r hS hob hl => ?_)
  · unfold Zb1 at hS; split at hS <;> first | (cases hS; done) | (cases hS; exact Nat.le_of_ble_eq_true rfl)
  unfold Zb1 at hS
  split at hS
  case h_2 => cases hS
  rename_i o p x pl c
  simp only [Option.some.injEq] at hS
  subst hS
  simp only [lenP, mkL, lim] at hl
  dsimp only at hob
  have hG := gok (validB_iff.1 hob)
  have hpl : p.length = o.length := hG.pl
  have hxl : x.length = o.length := hG.xl
  have hn : o.length ≤ 20000 := hG.n
  have hno : ∀ v, v < o.length → ¬ ((o.getD v 0 = pl → c.getD v 0 ∈ x.getD v []) ∧ (o.getD v 0 ≠ pl → c.getD v 0 = -1)) → Zeg ⟨o, p, x⟩ pl c = false := fun v hv h => decide_eq_false fun h2 => h (h2.2 v hv)
  repeat' first
    | with_reducible first | apply Zar | apply Zan | apply Zaa | apply Zac | apply Zah | apply Zap | apply Zag | apply Zaj | apply Zaq | apply Zas | apply Zao | apply Zal | apply Zab | apply Zak
    | ((with_reducible refine Zai ?_ ?_); exact rfl) | ((with_reducible refine Zat ?_); refine Zam rfl ?_ ?_ <;> intro hb <;> (try simp only [zH] at hb)) | ((with_reducible refine Zau 2 ?_ ?_); (· exact rfl); (with_reducible refine Zau 3 ?_ ?_); (· exact rfl); (first | refine Zaf htb hmz Zc1 fF rfl rfl ?_ | refine Zae hmo htb hmz Zc1 fF rfl rfl (by kernel_rfl) ?_); intro _ _ _ _ h; simp only [zE, evp, evx, ev1, evLoad, evStore, evBin, evIf, Zad, forall_const, z38, tb, reduceAdd, reduceSub, reduceMul, reduceEqDiff, reduceLeDiff, reduceLT, Nat.reduceBEq, Nat.reduceBNe, ↓reduceIte, reduceIte, spSt, Zav] at h; obtain ⟨rfl, rfl, rfl, rfl⟩ := h; refine ⟨?_, ?_⟩) | ((with_reducible refine Ob.mk ?_); first | exact trivial | (intros; omega) | ((repeat' first | apply And.intro | (intro a; have b := a; try simp only [zH] at b)) <;> first | assumption | omega | (simp only [zH]; omega)))
  · have hcb : Zeg ⟨o, p, x⟩ pl c = false := decide_eq_false fun h => by
      have h1 : c.length = o.length := h.1
      omega
    repeat' first
      | with_reducible first | apply Zar | apply Zan | apply Zaa | apply Zac | apply Zah | apply Zap | apply Zag | apply Zaj | apply Zaq | apply Zas | apply Zao | apply Zal | apply Zab | apply Zak
      | ((with_reducible refine Zai ?_ ?_); exact rfl) | ((with_reducible refine Zat ?_); refine Zam rfl ?_ ?_ <;> intro hb <;> (try simp only [zH] at hb)) | ((with_reducible refine Zaz ?_); (first | refine Zaf htb hmz Zc1 fF rfl rfl ?_ | refine Zae hmo htb hmz Zc1 fF rfl rfl (by kernel_rfl) ?_); intro _ _ _ _ h; simp only [zE, evp, evx, ev1, evLoad, evStore, evBin, evIf, Zad, forall_const, z38, tb, reduceAdd, reduceSub, reduceMul, reduceEqDiff, reduceLeDiff, reduceLT, Nat.reduceBEq, Nat.reduceBNe, ↓reduceIte, reduceIte, spSt, Zav] at h; obtain ⟨rfl, rfl, rfl, rfl⟩ := h; refine ⟨?_, ?_⟩) | ((with_reducible refine Ob.mk ?_); first | exact trivial | (intros; omega) | ((repeat' first | apply And.intro | (intro a; have b := a; try simp only [zH] at b)) <;> first | assumption | omega | (simp only [zH]; omega)))
    refine Zax rfl rfl (Zaw rfl ?_ rfl)
    rw [hcb]; rfl
  have hcl : c.length = o.length := by omega
  clear hb
  have hrl : ∀ v, v < o.length → (x.getD v []).length ≤ 64 := fun v h => (hG.len v h).2
  repeat' first
    | with_reducible first | apply Zar | apply Zan | apply Zaa | apply Zac | apply Zah | apply Zap | apply Zag | apply Zaj | apply Zaq | apply Zas | apply Zao | apply Zal | apply Zab | apply Zak
    | ((with_reducible refine Zai ?_ ?_); exact rfl) | ((with_reducible refine Zat ?_); refine Zam rfl ?_ ?_ <;> intro hb <;> (try simp only [zH] at hb)) | ((with_reducible refine Zaz ?_); (first | refine Zaf htb hmz Zc1 fF rfl rfl ?_ | refine Zae hmo htb hmz Zc1 fF rfl rfl (by kernel_rfl) ?_); intro _ _ _ _ h; simp only [zE, evp, evx, ev1, evLoad, evStore, evBin, evIf, Zad, forall_const, z38, tb, reduceAdd, reduceSub, reduceMul, reduceEqDiff, reduceLeDiff, reduceLT, Nat.reduceBEq, Nat.reduceBNe, ↓reduceIte, reduceIte, spSt, Zav] at h; obtain ⟨rfl, rfl, rfl, rfl⟩ := h; refine ⟨?_, ?_⟩) | ((with_reducible refine Ob.mk ?_); first | exact trivial | (intros; omega) | ((repeat' first | apply And.intro | (intro a; have b := a; try simp only [zH] at b)) <;> first | assumption | omega | (simp only [zH]; omega)))
  refine Za5 (τ := Nat) (fun i => i ≤ o.length ∧ ∀ v, v < i → (o.getD v 0 = pl → c.getD v 0 ∈ x.getD v []) ∧ (o.getD v 0 ≠ pl → c.getD v 0 = -1)) (fun i => ⟨10, [(17, .int .i64 i), (16, .int .i64 c.length), (15, .roI c), (1, .int .i64 pl), (3, (.rop (.agg (.cons (.roI o) (.cons (.roI p) (.cons (.roII x) .nil))))))], [], []⟩) (fun i => o.length - i) 0 [] ?_ ⟨Nat.zero_le _, fun v hv => absurd hv (Nat.not_lt_zero v)⟩ ?_
  · (refine ⟨rfl, ?_, ?_⟩ <;> simp only [zE, evp, evx, ev1, evLoad, evStore, evBin, evIf, Zad, forall_const, z38, tb, reduceAdd, reduceSub, reduceMul, reduceEqDiff, reduceLeDiff, reduceLT, Nat.reduceBEq, Nat.reduceBNe, ↓reduceIte, reduceIte, spSt, Zav, zI])
  rintro i ⟨hi, hk⟩
  have hno1 := hno i
  have hrl1 := hrl i
  clear hno hrl
  repeat' first
    | with_reducible first | apply Zar | apply Zan | apply Zaa | apply Zac | apply Zah | apply Zap | apply Zag | apply Zaj | apply Zaq | apply Zas | apply Zao | apply Zal | apply Zab | apply Zak
    | ((with_reducible refine Zai ?_ ?_); exact rfl) | ((with_reducible refine Zat ?_); refine Zam rfl ?_ ?_ <;> intro hb <;> (try simp only [zH] at hb)) | ((with_reducible refine Zau 7 ?_ ?_); (· exact rfl); (with_reducible refine Zau 8 ?_ ?_); (· exact rfl); (first | refine Zaf htb hmz Zc1 fF rfl rfl ?_ | refine Zae hmo htb hmz Zc1 fF rfl rfl (by kernel_rfl) ?_); intro _ _ _ _ h; simp only [zE, evp, evx, ev1, evLoad, evStore, evBin, evIf, Zad, forall_const, z38, tb, reduceAdd, reduceSub, reduceMul, reduceEqDiff, reduceLeDiff, reduceLT, Nat.reduceBEq, Nat.reduceBNe, ↓reduceIte, reduceIte, spSt, Zav] at h; obtain ⟨rfl, rfl, rfl, rfl⟩ := h; refine ⟨?_, ?_⟩) | ((with_reducible refine Ob.mk ?_); first | exact trivial | (intros; omega) | ((repeat' first | apply And.intro | (intro a; have b := a; try simp only [zH] at b)) <;> first | assumption | omega | (simp only [zH]; omega)))
  · rw [hno1 (by omega) fun h => by
      rcases hb with ⟨h1, h2⟩ | ⟨h1, h2⟩
      · exact h2 (h.1 h1)
      · exact h2 (h.2 h1)]
    repeat' first
      | with_reducible first | apply Zar | apply Zan | apply Zaa | apply Zac | apply Zah | apply Zap | apply Zag | apply Zaj | apply Zaq | apply Zas | apply Zao | apply Zal | apply Zab | apply Zak
      | ((with_reducible refine Zai ?_ ?_); exact rfl) | ((with_reducible refine Zat ?_); refine Zam rfl ?_ ?_ <;> intro hb <;> (try simp only [zH] at hb)) | ((with_reducible refine Zaz ?_); (first | refine Zaf htb hmz Zc1 fF rfl rfl ?_ | refine Zae hmo htb hmz Zc1 fF rfl rfl (by kernel_rfl) ?_); intro _ _ _ _ h; simp only [zE, evp, evx, ev1, evLoad, evStore, evBin, evIf, Zad, forall_const, z38, tb, reduceAdd, reduceSub, reduceMul, reduceEqDiff, reduceLeDiff, reduceLT, Nat.reduceBEq, Nat.reduceBNe, ↓reduceIte, reduceIte, spSt, Zav] at h; obtain ⟨rfl, rfl, rfl, rfl⟩ := h; refine ⟨?_, ?_⟩) | ((with_reducible refine Ob.mk ?_); first | exact trivial | (intros; omega) | ((repeat' first | apply And.intro | (intro a; have b := a; try simp only [zH] at b)) <;> first | assumption | omega | (simp only [zH]; omega)))
    refine Zax rfl rfl (Zaw rfl ?_ rfl)
    rfl
  · repeat' first
      | with_reducible first | apply Zar | apply Zan | apply Zaa | apply Zac | apply Zah | apply Zap | apply Zag | apply Zaj | apply Zaq | apply Zas | apply Zao | apply Zal | apply Zab | apply Zak
      | ((with_reducible refine Zai ?_ ?_); exact rfl) | ((with_reducible refine Zat ?_); refine Zam rfl ?_ ?_ <;> intro hb <;> (try simp only [zH] at hb)) | ((with_reducible refine Zaz ?_); (first | refine Zaf htb hmz Zc1 fF rfl rfl ?_ | refine Zae hmo htb hmz Zc1 fF rfl rfl (by kernel_rfl) ?_); intro _ _ _ _ h; simp only [zE, evp, evx, ev1, evLoad, evStore, evBin, evIf, Zad, forall_const, z38, tb, reduceAdd, reduceSub, reduceMul, reduceEqDiff, reduceLeDiff, reduceLT, Nat.reduceBEq, Nat.reduceBNe, ↓reduceIte, reduceIte, spSt, Zav] at h; obtain ⟨rfl, rfl, rfl, rfl⟩ := h; refine ⟨?_, ?_⟩) | ((with_reducible refine Ob.mk ?_); first | exact trivial | (intros; omega) | ((repeat' first | apply And.intro | (intro a; have b := a; try simp only [zH] at b)) <;> first | assumption | omega | (simp only [zH]; omega)))
    refine back (i + 1) [] ?_ ⟨by omega, fun v hv => ?_⟩ (by omega)
    · (refine ⟨rfl, ?_, ?_⟩ <;> simp only [zE, evp, evx, ev1, evLoad, evStore, evBin, evIf, Zad, forall_const, z38, tb, reduceAdd, reduceSub, reduceMul, reduceEqDiff, reduceLeDiff, reduceLT, Nat.reduceBEq, Nat.reduceBNe, ↓reduceIte, reduceIte, spSt, Zav, zI])
    · rcases Nat.lt_succ_iff_lt_or_eq.1 hv with h | rfl
      · exact hk v h
      · refine ⟨fun h => ?_, fun h => ?_⟩
        · exact hb.1.resolve_left (fun h2 => h2 h)
        · exact hb.2.resolve_left h
  have hie : i = o.length := by omega
  subst hie
  repeat' first
    | with_reducible first | apply Zar | apply Zan | apply Zaa | apply Zac | apply Zah | apply Zap | apply Zag | apply Zaj | apply Zaq | apply Zas | apply Zao | apply Zal | apply Zab | apply Zak
    | ((with_reducible refine Zai ?_ ?_); exact rfl) | ((with_reducible refine Zat ?_); refine Zam rfl ?_ ?_ <;> intro hb <;> (try simp only [zH] at hb)) | ((with_reducible refine Zaz ?_); (first | refine Zaf htb hmz Zc1 fF rfl rfl ?_ | refine Zae hmo htb hmz Zc1 fF rfl rfl (by kernel_rfl) ?_); intro _ _ _ _ h; simp only [zE, evp, evx, ev1, evLoad, evStore, evBin, evIf, Zad, forall_const, z38, tb, reduceAdd, reduceSub, reduceMul, reduceEqDiff, reduceLeDiff, reduceLT, Nat.reduceBEq, Nat.reduceBNe, ↓reduceIte, reduceIte, spSt, Zav] at h; obtain ⟨rfl, rfl, rfl, rfl⟩ := h; refine ⟨?_, ?_⟩) | ((with_reducible refine Ob.mk ?_); first | exact trivial | (intros; omega) | ((repeat' first | apply And.intro | (intro a; have b := a; try simp only [zH] at b)) <;> first | assumption | omega | (simp only [zH]; omega)))
  refine Zax rfl rfl (Zaw rfl ?_ rfl)
  have hcb : Zeg ⟨o, p, x⟩ pl c = true := decide_eq_true ⟨hcl, hk⟩
  rw [hcb]
  rfl
def Zcf (n : Nat) (a b : List Int) : List Int := (List.range n).map fun u => max (a.getD u 0) (b.getD u 0)
structure MetR where
  stem : List Int
  loop : List Int
  err : Int
noncomputable def metR (g : Gm) (a b : List Int) (v : Int) : MetR :=
  if Zba g = true then (if Zeg g 0 a = true ∧ Zeg g 1 b = true then (if v < 0 ∨ (g.own.length : Int) ≤ v then ⟨[], [], 6⟩ else ⟨(Ze1 g (Zcf g.own.length a b) v).stem, (Ze1 g (Zcf g.own.length a b) v).loop, 0⟩) else ⟨[], [], 4⟩) else ⟨[], [], 1⟩
def MetR.av (r : MetR) : AV := .tup (.cons (.agg (.cons (.roI r.stem) (.cons (.roI r.loop) .nil))) (.cons (.int .i64 r.err) .nil))
noncomputable def metS : Spec
  | [.agg (.cons (.roI o) (.cons (.roI p) (.cons (.roII x) .nil))), .roI a, .roI b, .int .i64 v] => some ⟨True, (metR ⟨o, p, x⟩ a b v).av, none⟩
  | _ => none
theorem Zfo {r : MetR} {e : Int} (h : r = ⟨[], [], e⟩) : Imp (.tup (.cons (.agg (.cons (.cst (.slice none 0 0)) (.cons (.cst (.slice none 0 0)) .nil))) (.cons (.int .i64 e) .nil))) r.av := by
  subst h
  exact Zgk (Zb3 (Zhd (Zb3 Zb0 (Zb3 Zb0 (Zca rfl)))) (Zca rfl))
theorem met_1 {g : Gm} {a b : List Int} {v : Int} (h : Zba g = false) : metR g a b v = ⟨[], [], 1⟩ := by unfold metR; rw [if_neg (by rw [h]; decide)]
theorem met_4 {g : Gm} {a b : List Int} {v : Int} (h : Zba g = true) (h2 : ¬ (Zeg g 0 a = true ∧ Zeg g 1 b = true)) : metR g a b v = ⟨[], [], 4⟩ := by unfold metR; rw [if_pos h, if_neg h2]
theorem met_6 {g : Gm} {a b : List Int} {v : Int} (h : Zba g = true) (h2 : Zeg g 0 a = true ∧ Zeg g 1 b = true) (h3 : v < 0 ∨ (g.own.length : Int) ≤ v) : metR g a b v = ⟨[], [], 6⟩ := by unfold metR; rw [if_pos h, if_pos h2, if_pos h3]
theorem met_0 {g : Gm} {a b : List Int} {v : Int} (h : Zba g = true) (h2 : Zeg g 0 a = true ∧ Zeg g 1 b = true) (h3 : ¬ (v < 0 ∨ (g.own.length : Int) ≤ v)) : metR g a b v = ⟨(Ze1 g (Zcf g.own.length a b) v).stem, (Ze1 g (Zcf g.own.length a b) v).loop, 0⟩ := by unfold metR; rw [if_pos h, if_pos h2, if_neg h3]
theorem both_at {n : Nat} {a b : List Int} {u : Nat} (h : u < n) : (Zcf n a b).getD u 0 = max (a.getD u 0) (b.getD u 0) := by
  simp [Zcf, List.getD_eq_getElem?_getD, h]
theorem both_len {n : Nat} {a b : List Int} : (Zcf n a b).length = n := by simp [Zcf]
theorem both_own {g : Gm} {a b : List Int} (hv : Zba g = true) (ha : Zeg g 0 a = true) (hb : Zeg g 1 b = true) {u : Nat} (hu : u < g.own.length) : (Zcf g.own.length a b).getD u 0 = (if g.own.getD u 0 = 0 then a.getD u 0 else b.getD u 0) ∧ (Zcf g.own.length a b).getD u 0 ∈ g.nxt.getD u [] := by
  have hG := gok (validB_iff.1 hv)
  obtain ⟨_, ha⟩ := of_decide_eq_true ha
  obtain ⟨_, hb⟩ := of_decide_eq_true hb
  rw [both_at hu]
  have hpos : ∀ z, z ∈ g.nxt.getD u [] → 0 ≤ z := fun z hz => by
    obtain ⟨j, hj, e⟩ := Zfu hz
    have := hG.at' u hu j hj
    rw [e] at this
    exact this.1
  rcases hG.own u hu with h | h
  · have h1 := (ha u hu).1 h
    have h2 := (hb u hu).2 (by rw [h]; decide)
    have := hpos _ h1
    rw [if_pos h, h2, show max (a.getD u 0) (-1) = a.getD u 0 by omega]
    exact ⟨rfl, h1⟩
  · have h1 := (hb u hu).1 h
    have h2 := (ha u hu).2 (by rw [h]; decide)
    have := hpos _ h1
    rw [if_neg (by rw [h]; decide), h2, show max (-1) (b.getD u 0) = b.getD u 0 by omega]
    exact ⟨rfl, h1⟩
noncomputable def spMt : Nat → Option Spec
  | 44 => some Zay
  | 45 => some Zb1
  | 46 => some Zd1
  | 39 => some joiS
  | _ => none
theorem Zbq : SpOK Tryd.prog spMt := by
  intro f S h
  unfold spMt at h
  split at h
  · cases h; exact Zfw
  · cases h; exact strat_ok
  · cases h; exact play_ok
  · cases h; exact Zee
  · cases h
set_option maxRecDepth 4000 in
set_option maxHeartbeats 4000000 in
theorem met_ok : Zb2 Tryd.prog 20 metS := by
  refine Za8 htb (fn := Tryd.f20) (by kernel_rfl) (by kernel_rfl) rfl (fun args r hS => ?_) (fun args r hS hob hl => ?_)
  · unfold metS at hS; split at hS <;> first | (cases hS; done) | (cases hS; exact Nat.le_of_ble_eq_true rfl)
  unfold metS at hS
  split at hS
  case h_2 => cases hS
  rename_i o p x a b v
  simp only [Option.some.injEq] at hS
  subst hS
  simp only [lenP, mkL, lim] at hl
  dsimp only at hob
  repeat' first
    | with_reducible first | apply Zar | apply Zan | apply Zaa | apply Zac | apply Zah | apply Zap | apply Zag | apply Zaj | apply Zaq | apply Zas | apply Zao | apply Zal | apply Zab | apply Zak
    | ((with_reducible refine Zai ?_ ?_); exact rfl) | ((with_reducible refine Zat ?_); refine Zam rfl ?_ ?_ <;> intro hb <;> (try simp only [zH] at hb)) | ((with_reducible refine Zau 2 ?_ ?_); (· exact rfl); (with_reducible refine Zau 3 ?_ ?_); (· exact rfl); (first | refine Zaf htb hmz Zbq fF rfl rfl ?_ | refine Zae hmo htb hmz Zbq fF rfl rfl (by kernel_rfl) ?_); intro _ _ _ _ h; simp only [zE, evp, evx, ev1, evLoad, evStore, evBin, evIf, Zad, forall_const, z38, tb, reduceAdd, reduceSub, reduceMul, reduceEqDiff, reduceLeDiff, reduceLT, Nat.reduceBEq, Nat.reduceBNe, ↓reduceIte, reduceIte, spMt, Zay, Zb1, Zd1, joiS, PlayR.av] at h; obtain ⟨rfl, rfl, rfl, rfl⟩ := h; refine ⟨?_, ?_⟩) | ((with_reducible refine Ob.mk ?_); first | exact trivial | (intros; omega) | ((repeat' first | apply And.intro | (intro a; have b := a; try simp only [zH] at b)) <;> first | assumption | omega | (simp only [zH]; omega)))
  · repeat' first
      | with_reducible first | apply Zar | apply Zan | apply Zaa | apply Zac | apply Zah | apply Zap | apply Zag | apply Zaj | apply Zaq | apply Zas | apply Zao | apply Zal | apply Zab | apply Zak
      | ((with_reducible refine Zai ?_ ?_); exact rfl) | ((with_reducible refine Zat ?_); refine Zam rfl ?_ ?_ <;> intro hb <;> (try simp only [zH] at hb)) | ((with_reducible refine Zaz ?_); (first | refine Zaf htb hmz Zbq fF rfl rfl ?_ | refine Zae hmo htb hmz Zbq fF rfl rfl (by kernel_rfl) ?_); intro _ _ _ _ h; simp only [zE, evp, evx, ev1, evLoad, evStore, evBin, evIf, Zad, forall_const, z38, tb, reduceAdd, reduceSub, reduceMul, reduceEqDiff, reduceLeDiff, reduceLT, Nat.reduceBEq, Nat.reduceBNe, ↓reduceIte, reduceIte, spMt, Zay, Zb1, Zd1, joiS, PlayR.av] at h; obtain ⟨rfl, rfl, rfl, rfl⟩ := h; refine ⟨?_, ?_⟩) | ((with_reducible refine Ob.mk ?_); first | exact trivial | (intros; omega) | ((repeat' first | apply And.intro | (intro a; have b := a; try simp only [zH] at b)) <;> first | assumption | omega | (simp only [zH]; omega)))
    refine Zax rfl rfl (Zcg rfl ?_ rfl)
    exact Zfo (met_1 hb)
  have hv : Zba ⟨o, p, x⟩ = true := by cases h : Zba ⟨o, p, x⟩ with | true => rfl | false => rw [h] at hb; simp at hb
  clear hb
  repeat' first
    | with_reducible first | apply Zar | apply Zan | apply Zaa | apply Zac | apply Zah | apply Zap | apply Zag | apply Zaj | apply Zaq | apply Zas | apply Zao | apply Zal | apply Zab | apply Zak
    | ((with_reducible refine Zai ?_ ?_); exact rfl) | ((with_reducible refine Zat ?_); refine Zam rfl ?_ ?_ <;> intro hb <;> (try simp only [zH] at hb)) | ((with_reducible refine Zau 4 ?_ ?_); (· exact rfl); (with_reducible refine Zau 5 ?_ ?_); (· exact rfl); (first | refine Zaf htb hmz Zbq fF rfl rfl ?_ | refine Zae hmo htb hmz Zbq fF rfl rfl (by kernel_rfl) ?_); intro _ _ _ _ h; simp only [zE, evp, evx, ev1, evLoad, evStore, evBin, evIf, Zad, forall_const, z38, tb, reduceAdd, reduceSub, reduceMul, reduceEqDiff, reduceLeDiff, reduceLT, Nat.reduceBEq, Nat.reduceBNe, ↓reduceIte, reduceIte, spMt, Zay, Zb1, Zd1, joiS, PlayR.av] at h; obtain ⟨rfl, rfl, rfl, rfl⟩ := h; refine ⟨?_, ?_⟩) | ((with_reducible refine Ob.mk ?_); first | exact trivial | (intros; omega) | ((repeat' first | apply And.intro | (intro a; have b := a; try simp only [zH] at b)) <;> first | assumption | omega | (simp only [zH]; omega)))
  · repeat' first
      | with_reducible first | apply Zar | apply Zan | apply Zaa | apply Zac | apply Zah | apply Zap | apply Zag | apply Zaj | apply Zaq | apply Zas | apply Zao | apply Zal | apply Zab | apply Zak
      | ((with_reducible refine Zai ?_ ?_); exact rfl) | ((with_reducible refine Zat ?_); refine Zam rfl ?_ ?_ <;> intro hb <;> (try simp only [zH] at hb)) | ((with_reducible refine Zaz ?_); (first | refine Zaf htb hmz Zbq fF rfl rfl ?_ | refine Zae hmo htb hmz Zbq fF rfl rfl (by kernel_rfl) ?_); intro _ _ _ _ h; simp only [zE, evp, evx, ev1, evLoad, evStore, evBin, evIf, Zad, forall_const, z38, tb, reduceAdd, reduceSub, reduceMul, reduceEqDiff, reduceLeDiff, reduceLT, Nat.reduceBEq, Nat.reduceBNe, ↓reduceIte, reduceIte, spMt, Zay, Zb1, Zd1, joiS, PlayR.av] at h; obtain ⟨rfl, rfl, rfl, rfl⟩ := h; refine ⟨?_, ?_⟩) | ((with_reducible refine Ob.mk ?_); first | exact trivial | (intros; omega) | ((repeat' first | apply And.intro | (intro a; have b := a; try simp only [zH] at b)) <;> first | assumption | omega | (simp only [zH]; omega)))
    refine Zax rfl rfl (Zcg rfl ?_ rfl)
    exact Zfo (met_4 hv fun h => by
      rcases hb with h2 | h2
      · rw [h2] at h; cases h.1
      · rw [h2] at h; cases h.2)
  have hff := hb
  clear hb
  have hG := gok (validB_iff.1 hv)
  have hn : o.length ≤ 20000 := hG.n
  have hal : a.length = o.length := (of_decide_eq_true hff.1).1
  have hbl : b.length = o.length := (of_decide_eq_true hff.2).1
  repeat' first
    | with_reducible first | apply Zar | apply Zan | apply Zaa | apply Zac | apply Zah | apply Zap | apply Zag | apply Zaj | apply Zaq | apply Zas | apply Zao | apply Zal | apply Zab | apply Zak
    | ((with_reducible refine Zai ?_ ?_); exact rfl) | ((with_reducible refine Zat ?_); refine Zam rfl ?_ ?_ <;> intro hb <;> (try simp only [zH] at hb)) | ((with_reducible refine Zau 6 ?_ ?_); (· exact rfl); (with_reducible refine Zau 7 ?_ ?_); (· exact rfl); (first | refine Zaf htb hmz Zbq fF rfl rfl ?_ | refine Zae hmo htb hmz Zbq fF rfl rfl (by kernel_rfl) ?_); intro _ _ _ _ h; simp only [zE, evp, evx, ev1, evLoad, evStore, evBin, evIf, Zad, forall_const, z38, tb, reduceAdd, reduceSub, reduceMul, reduceEqDiff, reduceLeDiff, reduceLT, Nat.reduceBEq, Nat.reduceBNe, ↓reduceIte, reduceIte, spMt, Zay, Zb1, Zd1, joiS, PlayR.av] at h; obtain ⟨rfl, rfl, rfl, rfl⟩ := h; refine ⟨?_, ?_⟩) | ((with_reducible refine Ob.mk ?_); first | exact trivial | (intros; omega) | ((repeat' first | apply And.intro | (intro a; have b := a; try simp only [zH] at b)) <;> first | assumption | omega | (simp only [zH]; omega)))
  · repeat' first
      | with_reducible first | apply Zar | apply Zan | apply Zaa | apply Zac | apply Zah | apply Zap | apply Zag | apply Zaj | apply Zaq | apply Zas | apply Zao | apply Zal | apply Zab | apply Zak
      | ((with_reducible refine Zai ?_ ?_); exact rfl) | ((with_reducible refine Zat ?_); refine Zam rfl ?_ ?_ <;> intro hb <;> (try simp only [zH] at hb)) | ((with_reducible refine Zaz ?_); (first | refine Zaf htb hmz Zbq fF rfl rfl ?_ | refine Zae hmo htb hmz Zbq fF rfl rfl (by kernel_rfl) ?_); intro _ _ _ _ h; simp only [zE, evp, evx, ev1, evLoad, evStore, evBin, evIf, Zad, forall_const, z38, tb, reduceAdd, reduceSub, reduceMul, reduceEqDiff, reduceLeDiff, reduceLT, Nat.reduceBEq, Nat.reduceBNe, ↓reduceIte, reduceIte, spMt, Zay, Zb1, Zd1, joiS, PlayR.av] at h; obtain ⟨rfl, rfl, rfl, rfl⟩ := h; refine ⟨?_, ?_⟩) | ((with_reducible refine Ob.mk ?_); first | exact trivial | (intros; omega) | ((repeat' first | apply And.intro | (intro a; have b := a; try simp only [zH] at b)) <;> first | assumption | omega | (simp only [zH]; omega)))
    refine Zax rfl rfl (Zcg rfl ?_ rfl)
    exact Zfo (met_6 hv hff hb)
  have hvr : 0 ≤ v ∧ v < o.length := by omega
  have hme := met_0 (a := a) (b := b) (v := v) hv hff (by show ¬ (v < 0 ∨ (o.length : Int) ≤ v); omega)
  clear hb
  have hbo := fun u (hu : u < o.length) => both_own hv hff.1 hff.2 hu
  have hbl2 : (Zcf o.length a b).length = o.length := both_len
  have hOk : OkCh ⟨o, p, x⟩ (Zcf o.length a b) := fun u hu => (hbo u (by omega)).2
  have hpe := @Zh5 ⟨o, p, x⟩ (Zcf o.length a b) v hv hbl2 (by simp only [Gm.n]; omega) hOk
  have hag : ∃ L k, Ze5 (chF (Zcf o.length a b)) v.toNat L k ∧ L ≤ o.length := by
    refine again_ex fun j => ?_
    induction j with
    | zero => show v.toNat < _; omega
    | succ j ih =>
      have h1 := (hbo _ ih).2
      obtain ⟨q, hq, e⟩ := Zfu h1
      have h2 := hG.at' _ ih q hq
      rw [e] at h2
      have h2 : 0 ≤ (Zcf o.length a b).getD (orb (chF (Zcf o.length a b)) v.toNat j) 0 ∧ (Zcf o.length a b).getD (orb (chF (Zcf o.length a b)) v.toNat j) 0 < (o.length : Int) := h2
      show ((Zcf o.length a b).getD _ 0).toNat < o.length
      omega
  obtain ⟨L, k, hA, hLn⟩ := hag
  have hpe := hpe hA
  have hwl : (way (Zcf o.length a b) v.toNat L).length = L := by simp [way]
  repeat' first
    | with_reducible first | apply Zar | apply Zan | apply Zaa | apply Zac | apply Zah | apply Zap | apply Zag | apply Zaj | apply Zaq | apply Zas | apply Zao | apply Zal | apply Zab | apply Zak
    | ((with_reducible refine Zai ?_ ?_); exact rfl) | ((with_reducible refine Zat ?_); refine Zam rfl ?_ ?_ <;> intro hb <;> (try simp only [zH] at hb)) | ((with_reducible refine Zau 8 ?_ ?_); (· exact rfl); (first | refine Zaf htb hmz Zbq fF rfl rfl ?_ | refine Zae hmo htb hmz Zbq fF rfl rfl (by kernel_rfl) ?_); intro _ _ _ _ h; simp only [zE, evp, evx, ev1, evLoad, evStore, evBin, evIf, Zad, forall_const, z38, tb, reduceAdd, reduceSub, reduceMul, reduceEqDiff, reduceLeDiff, reduceLT, Nat.reduceBEq, Nat.reduceBNe, ↓reduceIte, reduceIte, spMt, Zay, Zb1, Zd1, joiS, PlayR.av] at h; obtain ⟨rfl, rfl, rfl, rfl⟩ := h; refine ⟨?_, ?_⟩) | ((with_reducible refine Ob.mk ?_); first | exact trivial | (intros; omega) | ((repeat' first | apply And.intro | (intro a; have b := a; try simp only [zH] at b)) <;> first | assumption | omega | (simp only [zH]; omega)))
  have hz : (List.replicate a.length (0 : Int)) = mix (fun u => max (a.getD u 0) (b.getD u 0)) (fun _ => 0) o.length 0 := by
    rw [hal]
    unfold mix
    refine List.ext_getElem (by simp) fun j h1 h2 => by simp
  repeat' first
    | with_reducible first | apply Zar | apply Zan | apply Zaa | apply Zac | apply Zah | apply Zap | apply Zag | apply Zaj | apply Zaq | apply Zas | apply Zao | apply Zal | apply Zab | apply Zak
    | ((with_reducible refine Zai ?_ ?_); exact rfl) | ((with_reducible refine Zat ?_); refine Zam rfl ?_ ?_ <;> intro hb <;> (try simp only [zH] at hb)) | ((with_reducible refine Zaz ?_); (first | refine Zaf htb hmz Zbq fF rfl rfl ?_ | refine Zae hmo htb hmz Zbq fF rfl rfl (by kernel_rfl) ?_); intro _ _ _ _ h; simp only [zE, evp, evx, ev1, evLoad, evStore, evBin, evIf, Zad, forall_const, z38, tb, reduceAdd, reduceSub, reduceMul, reduceEqDiff, reduceLeDiff, reduceLT, Nat.reduceBEq, Nat.reduceBNe, ↓reduceIte, reduceIte, spMt, Zay, Zb1, Zd1, joiS, PlayR.av] at h; obtain ⟨rfl, rfl, rfl, rfl⟩ := h; refine ⟨?_, ?_⟩) | ((with_reducible refine Ob.mk ?_); first | exact trivial | (intros; omega) | ((repeat' first | apply And.intro | (intro a; have b := a; try simp only [zH] at b)) <;> first | assumption | omega | (simp only [zH]; omega)))
  refine Za5 (τ := Nat) (fun i => i ≤ o.length) (fun i => ⟨32, [(46, .int .i64 i), (45, .int .i64 o.length), (10, .own 27), (1, .roI a), (2, .roI b), (3, .int .i64 v), (4, .rop (.agg (.cons (.roI o) (.cons (.roI p) (.cons (.roII x) .nil))))), (8, .own 1)], [(27, some (.ints (mix (fun u => max (a.getD u 0) (b.getD u 0)) (fun _ => 0) o.length i))), (1, some (.box (.agg (.cons (.cst (.slice none 0 0)) (.cons (.cst (.slice none 0 0)) .nil)))))], []⟩) (fun i => o.length - i) 0 [] ?_ (Nat.zero_le _) ?_
  · (refine ⟨rfl, ?_, ?_⟩ <;> simp only [zE, evp, evx, ev1, evLoad, evStore, evBin, evIf, Zad, forall_const, z38, tb, reduceAdd, reduceSub, reduceMul, reduceEqDiff, reduceLeDiff, reduceLT, Nat.reduceBEq, Nat.reduceBNe, ↓reduceIte, reduceIte, spMt, Zay, Zb1, Zd1, joiS, PlayR.av, zI])
    · rw [List.length_replicate, hal]
    · exact hz
  intro i hi
  have hml : (mix (fun u => max (a.getD u 0) (b.getD u 0)) (fun _ => 0) o.length i).length = o.length := mix_len
  repeat' first
    | with_reducible first | apply Zar | apply Zan | apply Zaa | apply Zac | apply Zah | apply Zap | apply Zag | apply Zaj | apply Zaq | apply Zas | apply Zao | apply Zal | apply Zab | apply Zak
    | ((with_reducible refine Zai ?_ ?_); exact rfl) | ((with_reducible refine Zat ?_); refine Zam rfl ?_ ?_ <;> intro hb <;> (try simp only [zH] at hb)) | ((with_reducible refine Zau 10 ?_ ?_); (· exact rfl); (with_reducible refine Zau 13 ?_ ?_); (· exact rfl); (first | refine Zaf htb hmz Zbq fF rfl rfl ?_ | refine Zae hmo htb hmz Zbq fF rfl rfl (by kernel_rfl) ?_); intro _ _ _ _ h; simp only [zE, evp, evx, ev1, evLoad, evStore, evBin, evIf, Zad, forall_const, z38, tb, reduceAdd, reduceSub, reduceMul, reduceEqDiff, reduceLeDiff, reduceLT, Nat.reduceBEq, Nat.reduceBNe, ↓reduceIte, reduceIte, spMt, Zay, Zb1, Zd1, joiS, PlayR.av] at h; obtain ⟨rfl, rfl, rfl, rfl⟩ := h; refine ⟨?_, ?_⟩) | ((with_reducible refine Ob.mk ?_); first | exact trivial | (intros; omega) | ((repeat' first | apply And.intro | (intro a; have b := a; try simp only [zH] at b)) <;> first | assumption | omega | (simp only [zH]; omega)))
  · have hil : i < o.length := by omega
    repeat' first
      | with_reducible first | apply Zar | apply Zan | apply Zaa | apply Zac | apply Zah | apply Zap | apply Zag | apply Zaj | apply Zaq | apply Zas | apply Zao | apply Zal | apply Zab | apply Zak
      | ((with_reducible refine Zai ?_ ?_); exact rfl) | ((with_reducible refine Zat ?_); refine Zam rfl ?_ ?_ <;> intro hb <;> (try simp only [zH] at hb)) | ((with_reducible refine Zaz ?_); (first | refine Zaf htb hmz Zbq fF rfl rfl ?_ | refine Zae hmo htb hmz Zbq fF rfl rfl (by kernel_rfl) ?_); intro _ _ _ _ h; simp only [zE, evp, evx, ev1, evLoad, evStore, evBin, evIf, Zad, forall_const, z38, tb, reduceAdd, reduceSub, reduceMul, reduceEqDiff, reduceLeDiff, reduceLT, Nat.reduceBEq, Nat.reduceBNe, ↓reduceIte, reduceIte, spMt, Zay, Zb1, Zd1, joiS, PlayR.av] at h; obtain ⟨rfl, rfl, rfl, rfl⟩ := h; refine ⟨?_, ?_⟩) | ((with_reducible refine Ob.mk ?_); first | exact trivial | (intros; omega) | ((repeat' first | apply And.intro | (intro a; have b := a; try simp only [zH] at b)) <;> first | assumption | omega | (simp only [zH]; omega)))
    refine back (i + 1) [] ?_ (by omega) (by omega)
    (refine ⟨rfl, ?_, ?_⟩ <;> simp only [zE, evp, evx, ev1, evLoad, evStore, evBin, evIf, Zad, forall_const, z38, tb, reduceAdd, reduceSub, reduceMul, reduceEqDiff, reduceLeDiff, reduceLT, Nat.reduceBEq, Nat.reduceBNe, ↓reduceIte, reduceIte, spMt, Zay, Zb1, Zd1, joiS, PlayR.av, zI])
    exact mix_set
  have hie : i = o.length := by omega
  subst hie
  rw [mix_all]
  refine Zei 27 (.roI (Zcf o.length a b)) (by simp only [Zbb, Zbu, fzE, fzA, fzR, fzB, set1, nbeq, reduceEqDiff, decide_true, decide_false, ↓reduceIte, reduceIte, cond_true, cond_false, List.take_length, Option.some.injEq]; rfl) (by first | exact rfl | (refine ⟨?_, rfl⟩; first | rfl | (intros; rfl))) (by simp only [Zbb, Zbu, fzE, fzA, fzR, fzB, set1, nbeq, reduceEqDiff, decide_true, decide_false, ↓reduceIte, reduceIte, cond_true, cond_false, List.take_length, Option.some.injEq]; rfl) (by simp only [Zbb, Zbu, fzE, fzA, fzR, fzB, set1, nbeq, reduceEqDiff, decide_true, decide_false, ↓reduceIte, reduceIte, cond_true, cond_false, List.take_length, Option.some.injEq]; rfl) ?_
  have hf1 : [(way (Zcf o.length a b) v.toNat L).take k].flatten.length ≤ 100000 := by
    simp only [List.flatten_cons, List.flatten_nil, List.append_nil, List.length_take]; omega
  have hf2 : [(way (Zcf o.length a b) v.toNat L).drop k].flatten.length ≤ 100000 := by
    have hd : ((way (Zcf o.length a b) v.toNat L).drop k).length = (way (Zcf o.length a b) v.toNat L).length - k := List.length_drop ..
    rw [List.flatten_cons, List.flatten_nil, List.append_nil, hd, hwl]; omega
  repeat' first
    | with_reducible first | apply Zar | apply Zan | apply Zaa | apply Zac | apply Zah | apply Zap | apply Zag | apply Zaj | apply Zaq | apply Zas | apply Zao | apply Zal | apply Zab | apply Zak
    | ((with_reducible refine Zai ?_ ?_); exact rfl) | ((with_reducible refine Zat ?_); refine Zam rfl ?_ ?_ <;> intro hb <;> (try simp only [zH] at hb)) | ((with_reducible refine Zau 14 ?_ ?_); (· exact rfl); (first | refine Zaf htb hmz Zbq fF rfl rfl ?_ | refine Zae hmo htb hmz Zbq fF rfl rfl (by kernel_rfl) ?_); intro _ _ _ _ h; simp only [zE, evp, evx, ev1, evLoad, evStore, evBin, evIf, Zad, forall_const, z38, tb, reduceAdd, reduceSub, reduceMul, reduceEqDiff, reduceLeDiff, reduceLT, Nat.reduceBEq, Nat.reduceBNe, ↓reduceIte, reduceIte, spMt, Zay, Zb1, Zd1, joiS, PlayR.av] at h; obtain ⟨rfl, rfl, rfl, rfl⟩ := h; refine ⟨?_, ?_⟩) | ((with_reducible refine Ob.mk ?_); first | exact trivial | (intros; omega) | ((repeat' first | apply And.intro | (intro a; have b := a; try simp only [zH] at b)) <;> first | assumption | omega | (simp only [zH]; omega)))
  rw [hpe]
  rw [hpe] at hme
  repeat' first
    | with_reducible first | apply Zar | apply Zan | apply Zaa | apply Zac | apply Zah | apply Zap | apply Zag | apply Zaj | apply Zaq | apply Zas | apply Zao | apply Zal | apply Zab | apply Zak
    | ((with_reducible refine Zai ?_ ?_); exact rfl) | ((with_reducible refine Zat ?_); refine Zam rfl ?_ ?_ <;> intro hb <;> (try simp only [zH] at hb)) | ((with_reducible refine Zau 15 ?_ ?_); (· exact rfl); (with_reducible refine Zau 16 ?_ ?_); (· exact rfl); (first | refine Zaf htb hmz Zbq fF rfl rfl ?_ | refine Zae hmo htb hmz Zbq fF rfl rfl (by kernel_rfl) ?_); intro _ _ _ _ h; simp only [zE, evp, evx, ev1, evLoad, evStore, evBin, evIf, Zad, forall_const, z38, tb, reduceAdd, reduceSub, reduceMul, reduceEqDiff, reduceLeDiff, reduceLT, Nat.reduceBEq, Nat.reduceBNe, ↓reduceIte, reduceIte, spMt, Zay, Zb1, Zd1, joiS, PlayR.av] at h; obtain ⟨rfl, rfl, rfl, rfl⟩ := h; refine ⟨?_, ?_⟩) | ((with_reducible refine Ob.mk ?_); first | exact trivial | (intros; omega) | ((repeat' first | apply And.intro | (intro a; have b := a; try simp only [zH] at b)) <;> first | assumption | omega | (simp only [zH]; omega)))
  · cases hb
  repeat' first
    | with_reducible first | apply Zar | apply Zan | apply Zaa | apply Zac | apply Zah | apply Zap | apply Zag | apply Zaj | apply Zaq | apply Zas | apply Zao | apply Zal | apply Zab | apply Zak
    | ((with_reducible refine Zai ?_ ?_); exact rfl) | ((with_reducible refine Zat ?_); refine Zam rfl ?_ ?_ <;> intro hb <;> (try simp only [zH] at hb)) | ((with_reducible refine Zaz ?_); (first | refine Zaf htb hmz Zbq fF rfl rfl ?_ | refine Zae hmo htb hmz Zbq fF rfl rfl (by kernel_rfl) ?_); intro _ _ _ _ h; simp only [zE, evp, evx, ev1, evLoad, evStore, evBin, evIf, Zad, forall_const, z38, tb, reduceAdd, reduceSub, reduceMul, reduceEqDiff, reduceLeDiff, reduceLT, Nat.reduceBEq, Nat.reduceBNe, ↓reduceIte, reduceIte, spMt, Zay, Zb1, Zd1, joiS, PlayR.av] at h; obtain ⟨rfl, rfl, rfl, rfl⟩ := h; refine ⟨?_, ?_⟩) | ((with_reducible refine Ob.mk ?_); first | exact trivial | (intros; omega) | ((repeat' first | apply And.intro | (intro a; have b := a; try simp only [zH] at b)) <;> first | assumption | omega | (simp only [zH]; omega)))
  refine Zax rfl rfl (Zaw rfl ?_ rfl)
  rw [hme]
  simp only [List.flatten_cons, List.flatten_nil, List.append_nil]
  rfl
open Go Pl
set_option maxRecDepth 4000 in
set_option maxHeartbeats 4000000 in
theorem eqI_ok : Zb2 Tryd.prog 43 Zdu := by
  refine Za8 htb (fn := Tryd.f43) (by kernel_rfl) (by kernel_rfl) rfl (fun args r hS => ?_) (fun args r hS hob hl => ?_)
  · unfold Zdu at hS; split at hS <;> first | (cases hS; done) | (cases hS; exact Nat.le_of_ble_eq_true rfl)
  unfold Zdu at hS
  split at hS
  case h_2 => cases hS
  rename_i a b
  simp only [Option.some.injEq] at hS
  subst hS
  simp only [lenP, mkL, lim] at hl
  dsimp only at hob
  repeat' first
    | with_reducible first | apply Zar | apply Zan | apply Zaa | apply Zac | apply Zah | apply Zap | apply Zag | apply Zaj | apply Zaq | apply Zas | apply Zao | apply Zal | apply Zab | apply Zak
    | ((with_reducible refine Zai ?_ ?_); exact rfl) | ((with_reducible refine Zat ?_); refine Zam rfl ?_ ?_ <;> intro hb <;> (try simp only [zH] at hb)) | ((with_reducible refine Zau 2 ?_ ?_); (· exact rfl); (with_reducible refine Zau 3 ?_ ?_); (· exact rfl); (first | refine Zaf htb hmz noSp fF rfl rfl ?_ | refine Zae hmo htb hmz noSp fF rfl rfl (by kernel_rfl) ?_); intro _ _ _ _ h; simp only [zE, evp, evx, ev1, evLoad, evStore, evBin, evIf, Zad, forall_const, z38, tb, reduceAdd, reduceSub, reduceMul, reduceEqDiff, reduceLeDiff, reduceLT, Nat.reduceBEq, Nat.reduceBNe, ↓reduceIte, reduceIte] at h; obtain ⟨rfl, rfl, rfl, rfl⟩ := h; refine ⟨?_, ?_⟩) | ((with_reducible refine Ob.mk ?_); first | exact trivial | (intros; omega) | ((repeat' first | apply And.intro | (intro a; have b := a; try simp only [zH] at b)) <;> first | assumption | omega | (simp only [zH]; omega)))
  · repeat' first
      | with_reducible first | apply Zar | apply Zan | apply Zaa | apply Zac | apply Zah | apply Zap | apply Zag | apply Zaj | apply Zaq | apply Zas | apply Zao | apply Zal | apply Zab | apply Zak
      | ((with_reducible refine Zai ?_ ?_); exact rfl) | ((with_reducible refine Zat ?_); refine Zam rfl ?_ ?_ <;> intro hb <;> (try simp only [zH] at hb)) | ((with_reducible refine Zaz ?_); (first | refine Zaf htb hmz noSp fF rfl rfl ?_ | refine Zae hmo htb hmz noSp fF rfl rfl (by kernel_rfl) ?_); intro _ _ _ _ h; simp only [zE, evp, evx, ev1, evLoad, evStore, evBin, evIf, Zad, forall_const, z38, tb, reduceAdd, reduceSub, reduceMul, reduceEqDiff, reduceLeDiff, reduceLT, Nat.reduceBEq, Nat.reduceBNe, ↓reduceIte, reduceIte] at h; obtain ⟨rfl, rfl, rfl, rfl⟩ := h; refine ⟨?_, ?_⟩) | ((with_reducible refine Ob.mk ?_); first | exact trivial | (intros; omega) | ((repeat' first | apply And.intro | (intro a; have b := a; try simp only [zH] at b)) <;> first | assumption | omega | (simp only [zH]; omega)))
    refine Zax rfl rfl (Zaw rfl ?_ rfl)
    have e : decide (a = b) = false := decide_eq_false fun h => by rw [h] at hb; exact hb rfl
    rw [e]; rfl
  have hlen : a.length = b.length := by omega
  clear hb
  repeat' first
    | with_reducible first | apply Zar | apply Zan | apply Zaa | apply Zac | apply Zah | apply Zap | apply Zag | apply Zaj | apply Zaq | apply Zas | apply Zao | apply Zal | apply Zab | apply Zak
    | ((with_reducible refine Zai ?_ ?_); exact rfl) | ((with_reducible refine Zat ?_); refine Zam rfl ?_ ?_ <;> intro hb <;> (try simp only [zH] at hb)) | ((with_reducible refine Zaz ?_); (first | refine Zaf htb hmz noSp fF rfl rfl ?_ | refine Zae hmo htb hmz noSp fF rfl rfl (by kernel_rfl) ?_); intro _ _ _ _ h; simp only [zE, evp, evx, ev1, evLoad, evStore, evBin, evIf, Zad, forall_const, z38, tb, reduceAdd, reduceSub, reduceMul, reduceEqDiff, reduceLeDiff, reduceLT, Nat.reduceBEq, Nat.reduceBNe, ↓reduceIte, reduceIte] at h; obtain ⟨rfl, rfl, rfl, rfl⟩ := h; refine ⟨?_, ?_⟩) | ((with_reducible refine Ob.mk ?_); first | exact trivial | (intros; omega) | ((repeat' first | apply And.intro | (intro a; have b := a; try simp only [zH] at b)) <;> first | assumption | omega | (simp only [zH]; omega)))
  refine Za5 (τ := Nat) (fun i => i ≤ a.length ∧ ∀ j, j < i → a.getD j 0 = b.getD j 0) (fun i => ⟨8, [(13, .int .i64 i), (12, .int .i64 a.length), (1, .roI b), (0, .roI a)], [], []⟩) (fun i => a.length - i) 0 [] ?_ ⟨Nat.zero_le _, fun j hj => absurd hj (Nat.not_lt_zero j)⟩ ?_
  · (refine ⟨rfl, ?_, ?_⟩ <;> simp only [zE, evp, evx, ev1, evLoad, evStore, evBin, evIf, Zad, forall_const, z38, tb, reduceAdd, reduceSub, reduceMul, reduceEqDiff, reduceLeDiff, reduceLT, Nat.reduceBEq, Nat.reduceBNe, ↓reduceIte, reduceIte, zI])
  rintro i ⟨hi, hk⟩
  repeat' first
    | with_reducible first | apply Zar | apply Zan | apply Zaa | apply Zac | apply Zah | apply Zap | apply Zag | apply Zaj | apply Zaq | apply Zas | apply Zao | apply Zal | apply Zab | apply Zak
    | ((with_reducible refine Zai ?_ ?_); exact rfl) | ((with_reducible refine Zat ?_); refine Zam rfl ?_ ?_ <;> intro hb <;> (try simp only [zH] at hb)) | ((with_reducible refine Zau 5 ?_ ?_); (· exact rfl); (with_reducible refine Zau 9 ?_ ?_); (· exact rfl); (first | refine Zaf htb hmz noSp fF rfl rfl ?_ | refine Zae hmo htb hmz noSp fF rfl rfl (by kernel_rfl) ?_); intro _ _ _ _ h; simp only [zE, evp, evx, ev1, evLoad, evStore, evBin, evIf, Zad, forall_const, z38, tb, reduceAdd, reduceSub, reduceMul, reduceEqDiff, reduceLeDiff, reduceLT, Nat.reduceBEq, Nat.reduceBNe, ↓reduceIte, reduceIte] at h; obtain ⟨rfl, rfl, rfl, rfl⟩ := h; refine ⟨?_, ?_⟩) | ((with_reducible refine Ob.mk ?_); first | exact trivial | (intros; omega) | ((repeat' first | apply And.intro | (intro a; have b := a; try simp only [zH] at b)) <;> first | assumption | omega | (simp only [zH]; omega)))
  · have hil : i < a.length := by omega
    repeat' first
      | with_reducible first | apply Zar | apply Zan | apply Zaa | apply Zac | apply Zah | apply Zap | apply Zag | apply Zaj | apply Zaq | apply Zas | apply Zao | apply Zal | apply Zab | apply Zak
      | ((with_reducible refine Zai ?_ ?_); exact rfl) | ((with_reducible refine Zat ?_); refine Zam rfl ?_ ?_ <;> intro hb <;> (try simp only [zH] at hb)) | ((with_reducible refine Zau 7 ?_ ?_); (· exact rfl); (with_reducible refine Zau 8 ?_ ?_); (· exact rfl); (first | refine Zaf htb hmz noSp fF rfl rfl ?_ | refine Zae hmo htb hmz noSp fF rfl rfl (by kernel_rfl) ?_); intro _ _ _ _ h; simp only [zE, evp, evx, ev1, evLoad, evStore, evBin, evIf, Zad, forall_const, z38, tb, reduceAdd, reduceSub, reduceMul, reduceEqDiff, reduceLeDiff, reduceLT, Nat.reduceBEq, Nat.reduceBNe, ↓reduceIte, reduceIte] at h; obtain ⟨rfl, rfl, rfl, rfl⟩ := h; refine ⟨?_, ?_⟩) | ((with_reducible refine Ob.mk ?_); first | exact trivial | (intros; omega) | ((repeat' first | apply And.intro | (intro a; have b := a; try simp only [zH] at b)) <;> first | assumption | omega | (simp only [zH]; omega)))
    · repeat' first
        | with_reducible first | apply Zar | apply Zan | apply Zaa | apply Zac | apply Zah | apply Zap | apply Zag | apply Zaj | apply Zaq | apply Zas | apply Zao | apply Zal | apply Zab | apply Zak
        | ((with_reducible refine Zai ?_ ?_); exact rfl) | ((with_reducible refine Zat ?_); refine Zam rfl ?_ ?_ <;> intro hb <;> (try simp only [zH] at hb)) | ((with_reducible refine Zaz ?_); (first | refine Zaf htb hmz noSp fF rfl rfl ?_ | refine Zae hmo htb hmz noSp fF rfl rfl (by kernel_rfl) ?_); intro _ _ _ _ h; simp only [zE, evp, evx, ev1, evLoad, evStore, evBin, evIf, Zad, forall_const, z38, tb, reduceAdd, reduceSub, reduceMul, reduceEqDiff, reduceLeDiff, reduceLT, Nat.reduceBEq, Nat.reduceBNe, ↓reduceIte, reduceIte] at h; obtain ⟨rfl, rfl, rfl, rfl⟩ := h; refine ⟨?_, ?_⟩) | ((with_reducible refine Ob.mk ?_); first | exact trivial | (intros; omega) | ((repeat' first | apply And.intro | (intro a; have b := a; try simp only [zH] at b)) <;> first | assumption | omega | (simp only [zH]; omega)))
      refine Zax rfl rfl (Zaw rfl ?_ rfl)
      have e : decide (a = b) = false := decide_eq_false fun h => by rw [h] at hb; exact hb rfl
      rw [e]; rfl
    · repeat' first
        | with_reducible first | apply Zar | apply Zan | apply Zaa | apply Zac | apply Zah | apply Zap | apply Zag | apply Zaj | apply Zaq | apply Zas | apply Zao | apply Zal | apply Zab | apply Zak
        | ((with_reducible refine Zai ?_ ?_); exact rfl) | ((with_reducible refine Zat ?_); refine Zam rfl ?_ ?_ <;> intro hb <;> (try simp only [zH] at hb)) | ((with_reducible refine Zaz ?_); (first | refine Zaf htb hmz noSp fF rfl rfl ?_ | refine Zae hmo htb hmz noSp fF rfl rfl (by kernel_rfl) ?_); intro _ _ _ _ h; simp only [zE, evp, evx, ev1, evLoad, evStore, evBin, evIf, Zad, forall_const, z38, tb, reduceAdd, reduceSub, reduceMul, reduceEqDiff, reduceLeDiff, reduceLT, Nat.reduceBEq, Nat.reduceBNe, ↓reduceIte, reduceIte] at h; obtain ⟨rfl, rfl, rfl, rfl⟩ := h; refine ⟨?_, ?_⟩) | ((with_reducible refine Ob.mk ?_); first | exact trivial | (intros; omega) | ((repeat' first | apply And.intro | (intro a; have b := a; try simp only [zH] at b)) <;> first | assumption | omega | (simp only [zH]; omega)))
      refine back (i + 1) [] ?_ ⟨by omega, fun j hj => ?_⟩ (by omega)
      · (refine ⟨rfl, ?_, ?_⟩ <;> simp only [zE, evp, evx, ev1, evLoad, evStore, evBin, evIf, Zad, forall_const, z38, tb, reduceAdd, reduceSub, reduceMul, reduceEqDiff, reduceLeDiff, reduceLT, Nat.reduceBEq, Nat.reduceBNe, ↓reduceIte, reduceIte, zI])
      · rcases Nat.lt_succ_iff_lt_or_eq.1 hj with h | rfl
        · exact hk j h
        · exact hb
  have hie : i = a.length := by omega
  subst hie
  repeat' first
    | with_reducible first | apply Zar | apply Zan | apply Zaa | apply Zac | apply Zah | apply Zap | apply Zag | apply Zaj | apply Zaq | apply Zas | apply Zao | apply Zal | apply Zab | apply Zak
    | ((with_reducible refine Zai ?_ ?_); exact rfl) | ((with_reducible refine Zat ?_); refine Zam rfl ?_ ?_ <;> intro hb <;> (try simp only [zH] at hb)) | ((with_reducible refine Zaz ?_); (first | refine Zaf htb hmz noSp fF rfl rfl ?_ | refine Zae hmo htb hmz noSp fF rfl rfl (by kernel_rfl) ?_); intro _ _ _ _ h; simp only [zE, evp, evx, ev1, evLoad, evStore, evBin, evIf, Zad, forall_const, z38, tb, reduceAdd, reduceSub, reduceMul, reduceEqDiff, reduceLeDiff, reduceLT, Nat.reduceBEq, Nat.reduceBNe, ↓reduceIte, reduceIte] at h; obtain ⟨rfl, rfl, rfl, rfl⟩ := h; refine ⟨?_, ?_⟩) | ((with_reducible refine Ob.mk ?_); first | exact trivial | (intros; omega) | ((repeat' first | apply And.intro | (intro a; have b := a; try simp only [zH] at b)) <;> first | assumption | omega | (simp only [zH]; omega)))
  refine Zax rfl rfl (Zaw rfl ?_ rfl)
  have e : decide (a = b) = true := decide_eq_true (ext0 hlen hk)
  rw [e]; rfl
noncomputable def agrR (g : Gm) (w c w2 c2 : List Int) : Bool × Int := if Zba g = true then (if Zbn g w c = true ∧ Zbn g w2 c2 = true then (decide (w = w2), 0) else (false, 4)) else (false, 1)
noncomputable def agrS : Spec
  | [.agg (.cons (.roI o) (.cons (.roI p) (.cons (.roII x) .nil))), .agg (.cons (.roI w) (.cons (.roI c) .nil)), .agg (.cons (.roI w2) (.cons (.roI c2) .nil))] => some ⟨True, .tup (.cons (.bool (agrR ⟨o, p, x⟩ w c w2 c2).1) (.cons (.int .i64 (agrR ⟨o, p, x⟩ w c w2 c2).2) .nil)), none⟩
  | _ => none
noncomputable def spAe : Nat → Option Spec
  | 28 => some clmS
  | 43 => some Zdu
  | _ => none
theorem Zby : SpOK Tryd.prog spAe := by
  intro f S h
  unfold spAe at h
  split at h
  · cases h; exact Zfr
  · cases h; exact eqI_ok
  · cases h
set_option maxRecDepth 4000 in
set_option maxHeartbeats 4000000 in
theorem agr_ok : Zb2 Tryd.prog 19 agrS := by
  refine Za8 htb (fn := Tryd.f19) (by kernel_rfl) (by kernel_rfl) rfl (fun args r hS => ?_) (fun args r hS hob hl => ?_)
  · unfold agrS at hS; split at hS <;> first | (cases hS; done) | (cases hS; exact Nat.le_of_ble_eq_true rfl)
  unfold agrS at hS
  split at hS
  case h_2 => cases hS
  rename_i o p x w c w2 c2
  simp only [Option.some.injEq] at hS
  subst hS
  simp only [lenP, mkL, lim] at hl
  dsimp only at hob
  have hor := Zii ⟨o, p, x⟩ w c
  have hor2 := Zii ⟨o, p, x⟩ w2 c2
  have ag1 : Zba ⟨o, p, x⟩ = false → agrR ⟨o, p, x⟩ w c w2 c2 = (false, 1) := fun h => by unfold agrR; rw [if_neg (by rw [h]; decide)]
  have ag4 : Zba ⟨o, p, x⟩ = true → (Zbn ⟨o, p, x⟩ w c = false ∨ Zbn ⟨o, p, x⟩ w2 c2 = false) → agrR ⟨o, p, x⟩ w c w2 c2 = (false, 4) := fun h h2 => by
    unfold agrR
    rw [if_pos h, if_neg]
    rintro ⟨h3, h4⟩
    rcases h2 with h2 | h2
    · rw [h2] at h3; cases h3
    · rw [h2] at h4; cases h4
  repeat' first
    | with_reducible first | apply Zar | apply Zan | apply Zaa | apply Zac | apply Zah | apply Zap | apply Zag | apply Zaj | apply Zaq | apply Zas | apply Zao | apply Zal | apply Zab | apply Zak
    | ((with_reducible refine Zai ?_ ?_); exact rfl) | ((with_reducible refine Zat ?_); refine Zam rfl ?_ ?_ <;> intro hb <;> (try simp only [zH] at hb)) | ((with_reducible refine Zau 2 ?_ ?_); (· exact rfl); (first | refine Zaf htb hmz Zby fF rfl rfl ?_ | refine Zae hmo htb hmz Zby fF rfl rfl (by kernel_rfl) ?_); intro _ _ _ _ h; simp only [zE, evp, evx, ev1, evLoad, evStore, evBin, evIf, Zad, forall_const, z38, tb, reduceAdd, reduceSub, reduceMul, reduceEqDiff, reduceLeDiff, reduceLT, Nat.reduceBEq, Nat.reduceBNe, ↓reduceIte, reduceIte, spAe, clmS, Zdu] at h; obtain ⟨rfl, rfl, rfl, rfl⟩ := h; refine ⟨?_, ?_⟩) | ((with_reducible refine Ob.mk ?_); first | exact trivial | (intros; omega) | ((repeat' first | apply And.intro | (intro a; have b := a; try simp only [zH] at b)) <;> first | assumption | omega | (simp only [zH]; omega)))
  rcases hor with ⟨hv, hc, he⟩ | ⟨he, hv⟩ | ⟨he, hv, hc⟩
  · rw [he]
    simp only [seI, seII, ↓reduceIte]
    repeat' first
      | with_reducible first | apply Zar | apply Zan | apply Zaa | apply Zac | apply Zah | apply Zap | apply Zag | apply Zaj | apply Zaq | apply Zas | apply Zao | apply Zal | apply Zab | apply Zak
      | ((with_reducible refine Zai ?_ ?_); exact rfl) | ((with_reducible refine Zat ?_); refine Zam rfl ?_ ?_ <;> intro hb <;> (try simp only [zH] at hb)) | ((with_reducible refine Zau 3 ?_ ?_); (· exact rfl); (with_reducible refine Zau 4 ?_ ?_); (· exact rfl); (first | refine Zaf htb hmz Zby fF rfl rfl ?_ | refine Zae hmo htb hmz Zby fF rfl rfl (by kernel_rfl) ?_); intro _ _ _ _ h; simp only [zE, evp, evx, ev1, evLoad, evStore, evBin, evIf, Zad, forall_const, z38, tb, reduceAdd, reduceSub, reduceMul, reduceEqDiff, reduceLeDiff, reduceLT, Nat.reduceBEq, Nat.reduceBNe, ↓reduceIte, reduceIte, spAe, clmS, Zdu] at h; obtain ⟨rfl, rfl, rfl, rfl⟩ := h; refine ⟨?_, ?_⟩) | ((with_reducible refine Ob.mk ?_); first | exact trivial | (intros; omega) | ((repeat' first | apply And.intro | (intro a; have b := a; try simp only [zH] at b)) <;> first | assumption | omega | (simp only [zH]; omega)))
    · cases hb
    clear hb
    repeat' first
      | with_reducible first | apply Zar | apply Zan | apply Zaa | apply Zac | apply Zah | apply Zap | apply Zag | apply Zaj | apply Zaq | apply Zas | apply Zao | apply Zal | apply Zab | apply Zak
      | ((with_reducible refine Zai ?_ ?_); exact rfl) | ((with_reducible refine Zat ?_); refine Zam rfl ?_ ?_ <;> intro hb <;> (try simp only [zH] at hb)) | ((with_reducible refine Zau 5 ?_ ?_); (· exact rfl); (first | refine Zaf htb hmz Zby fF rfl rfl ?_ | refine Zae hmo htb hmz Zby fF rfl rfl (by kernel_rfl) ?_); intro _ _ _ _ h; simp only [zE, evp, evx, ev1, evLoad, evStore, evBin, evIf, Zad, forall_const, z38, tb, reduceAdd, reduceSub, reduceMul, reduceEqDiff, reduceLeDiff, reduceLT, Nat.reduceBEq, Nat.reduceBNe, ↓reduceIte, reduceIte, spAe, clmS, Zdu] at h; obtain ⟨rfl, rfl, rfl, rfl⟩ := h; refine ⟨?_, ?_⟩) | ((with_reducible refine Ob.mk ?_); first | exact trivial | (intros; omega) | ((repeat' first | apply And.intro | (intro a; have b := a; try simp only [zH] at b)) <;> first | assumption | omega | (simp only [zH]; omega)))
    rcases hor2 with ⟨_, hc2, he2⟩ | ⟨_, hv2⟩ | ⟨he2, _, hc2⟩
    · have e : agrR ⟨o, p, x⟩ w c w2 c2 = (decide (w = w2), 0) := by unfold agrR; rw [if_pos hv, if_pos ⟨hc, hc2⟩]
      rw [he2, e]
      simp only [seI, seII, ↓reduceIte]
      repeat' first
        | with_reducible first | apply Zar | apply Zan | apply Zaa | apply Zac | apply Zah | apply Zap | apply Zag | apply Zaj | apply Zaq | apply Zas | apply Zao | apply Zal | apply Zab | apply Zak
        | ((with_reducible refine Zai ?_ ?_); exact rfl) | ((with_reducible refine Zat ?_); refine Zam rfl ?_ ?_ <;> intro hb <;> (try simp only [zH] at hb)) | ((with_reducible refine Zau 6 ?_ ?_); (· exact rfl); (with_reducible refine Zau 7 ?_ ?_); (· exact rfl); (first | refine Zaf htb hmz Zby fF rfl rfl ?_ | refine Zae hmo htb hmz Zby fF rfl rfl (by kernel_rfl) ?_); intro _ _ _ _ h; simp only [zE, evp, evx, ev1, evLoad, evStore, evBin, evIf, Zad, forall_const, z38, tb, reduceAdd, reduceSub, reduceMul, reduceEqDiff, reduceLeDiff, reduceLT, Nat.reduceBEq, Nat.reduceBNe, ↓reduceIte, reduceIte, spAe, clmS, Zdu] at h; obtain ⟨rfl, rfl, rfl, rfl⟩ := h; refine ⟨?_, ?_⟩) | ((with_reducible refine Ob.mk ?_); first | exact trivial | (intros; omega) | ((repeat' first | apply And.intro | (intro a; have b := a; try simp only [zH] at b)) <;> first | assumption | omega | (simp only [zH]; omega)))
      · cases hb
      repeat' first
        | with_reducible first | apply Zar | apply Zan | apply Zaa | apply Zac | apply Zah | apply Zap | apply Zag | apply Zaj | apply Zaq | apply Zas | apply Zao | apply Zal | apply Zab | apply Zak
        | ((with_reducible refine Zai ?_ ?_); exact rfl) | ((with_reducible refine Zat ?_); refine Zam rfl ?_ ?_ <;> intro hb <;> (try simp only [zH] at hb)) | ((with_reducible refine Zaz ?_); (first | refine Zaf htb hmz Zby fF rfl rfl ?_ | refine Zae hmo htb hmz Zby fF rfl rfl (by kernel_rfl) ?_); intro _ _ _ _ h; simp only [zE, evp, evx, ev1, evLoad, evStore, evBin, evIf, Zad, forall_const, z38, tb, reduceAdd, reduceSub, reduceMul, reduceEqDiff, reduceLeDiff, reduceLT, Nat.reduceBEq, Nat.reduceBNe, ↓reduceIte, reduceIte, spAe, clmS, Zdu] at h; obtain ⟨rfl, rfl, rfl, rfl⟩ := h; refine ⟨?_, ?_⟩) | ((with_reducible refine Ob.mk ?_); first | exact trivial | (intros; omega) | ((repeat' first | apply And.intro | (intro a; have b := a; try simp only [zH] at b)) <;> first | assumption | omega | (simp only [zH]; omega)))
      refine Zax rfl rfl (Zaw rfl ?_ rfl)
      rfl
    · rw [hv] at hv2; cases hv2
    · rw [he2, ag4 hv (.inr hc2)]
      repeat' first
        | with_reducible first | apply Zar | apply Zan | apply Zaa | apply Zac | apply Zah | apply Zap | apply Zag | apply Zaj | apply Zaq | apply Zas | apply Zao | apply Zal | apply Zab | apply Zak
        | ((with_reducible refine Zai ?_ ?_); exact rfl) | ((with_reducible refine Zat ?_); refine Zam rfl ?_ ?_ <;> intro hb <;> (try simp only [zH] at hb)) | ((with_reducible refine Zau 6 ?_ ?_); (· exact rfl); (with_reducible refine Zau 7 ?_ ?_); (· exact rfl); (first | refine Zaf htb hmz Zby fF rfl rfl ?_ | refine Zae hmo htb hmz Zby fF rfl rfl (by kernel_rfl) ?_); intro _ _ _ _ h; simp only [zE, evp, evx, ev1, evLoad, evStore, evBin, evIf, Zad, forall_const, z38, tb, reduceAdd, reduceSub, reduceMul, reduceEqDiff, reduceLeDiff, reduceLT, Nat.reduceBEq, Nat.reduceBNe, ↓reduceIte, reduceIte, spAe, clmS, Zdu] at h; obtain ⟨rfl, rfl, rfl, rfl⟩ := h; refine ⟨?_, ?_⟩) | ((with_reducible refine Ob.mk ?_); first | exact trivial | (intros; omega) | ((repeat' first | apply And.intro | (intro a; have b := a; try simp only [zH] at b)) <;> first | assumption | omega | (simp only [zH]; omega)))
      · repeat' first
          | with_reducible first | apply Zar | apply Zan | apply Zaa | apply Zac | apply Zah | apply Zap | apply Zag | apply Zaj | apply Zaq | apply Zas | apply Zao | apply Zal | apply Zab | apply Zak
          | ((with_reducible refine Zai ?_ ?_); exact rfl) | ((with_reducible refine Zat ?_); refine Zam rfl ?_ ?_ <;> intro hb <;> (try simp only [zH] at hb)) | ((with_reducible refine Zaz ?_); (first | refine Zaf htb hmz Zby fF rfl rfl ?_ | refine Zae hmo htb hmz Zby fF rfl rfl (by kernel_rfl) ?_); intro _ _ _ _ h; simp only [zE, evp, evx, ev1, evLoad, evStore, evBin, evIf, Zad, forall_const, z38, tb, reduceAdd, reduceSub, reduceMul, reduceEqDiff, reduceLeDiff, reduceLT, Nat.reduceBEq, Nat.reduceBNe, ↓reduceIte, reduceIte, spAe, clmS, Zdu] at h; obtain ⟨rfl, rfl, rfl, rfl⟩ := h; refine ⟨?_, ?_⟩) | ((with_reducible refine Ob.mk ?_); first | exact trivial | (intros; omega) | ((repeat' first | apply And.intro | (intro a; have b := a; try simp only [zH] at b)) <;> first | assumption | omega | (simp only [zH]; omega)))
        refine Zax rfl rfl (Zaw rfl ?_ rfl)
        rfl
      · exact absurd hb (by decide)
  · rw [he, ag1 hv]
    repeat' first
      | with_reducible first | apply Zar | apply Zan | apply Zaa | apply Zac | apply Zah | apply Zap | apply Zag | apply Zaj | apply Zaq | apply Zas | apply Zao | apply Zal | apply Zab | apply Zak
      | ((with_reducible refine Zai ?_ ?_); exact rfl) | ((with_reducible refine Zat ?_); refine Zam rfl ?_ ?_ <;> intro hb <;> (try simp only [zH] at hb)) | ((with_reducible refine Zau 3 ?_ ?_); (· exact rfl); (with_reducible refine Zau 4 ?_ ?_); (· exact rfl); (first | refine Zaf htb hmz Zby fF rfl rfl ?_ | refine Zae hmo htb hmz Zby fF rfl rfl (by kernel_rfl) ?_); intro _ _ _ _ h; simp only [zE, evp, evx, ev1, evLoad, evStore, evBin, evIf, Zad, forall_const, z38, tb, reduceAdd, reduceSub, reduceMul, reduceEqDiff, reduceLeDiff, reduceLT, Nat.reduceBEq, Nat.reduceBNe, ↓reduceIte, reduceIte, spAe, clmS, Zdu] at h; obtain ⟨rfl, rfl, rfl, rfl⟩ := h; refine ⟨?_, ?_⟩) | ((with_reducible refine Ob.mk ?_); first | exact trivial | (intros; omega) | ((repeat' first | apply And.intro | (intro a; have b := a; try simp only [zH] at b)) <;> first | assumption | omega | (simp only [zH]; omega)))
    · repeat' first
        | with_reducible first | apply Zar | apply Zan | apply Zaa | apply Zac | apply Zah | apply Zap | apply Zag | apply Zaj | apply Zaq | apply Zas | apply Zao | apply Zal | apply Zab | apply Zak
        | ((with_reducible refine Zai ?_ ?_); exact rfl) | ((with_reducible refine Zat ?_); refine Zam rfl ?_ ?_ <;> intro hb <;> (try simp only [zH] at hb)) | ((with_reducible refine Zaz ?_); (first | refine Zaf htb hmz Zby fF rfl rfl ?_ | refine Zae hmo htb hmz Zby fF rfl rfl (by kernel_rfl) ?_); intro _ _ _ _ h; simp only [zE, evp, evx, ev1, evLoad, evStore, evBin, evIf, Zad, forall_const, z38, tb, reduceAdd, reduceSub, reduceMul, reduceEqDiff, reduceLeDiff, reduceLT, Nat.reduceBEq, Nat.reduceBNe, ↓reduceIte, reduceIte, spAe, clmS, Zdu] at h; obtain ⟨rfl, rfl, rfl, rfl⟩ := h; refine ⟨?_, ?_⟩) | ((with_reducible refine Ob.mk ?_); first | exact trivial | (intros; omega) | ((repeat' first | apply And.intro | (intro a; have b := a; try simp only [zH] at b)) <;> first | assumption | omega | (simp only [zH]; omega)))
      refine Zax rfl rfl (Zaw rfl ?_ rfl)
      rfl
    · exact absurd hb (by decide)
  · rw [he, ag4 hv (.inl hc)]
    repeat' first
      | with_reducible first | apply Zar | apply Zan | apply Zaa | apply Zac | apply Zah | apply Zap | apply Zag | apply Zaj | apply Zaq | apply Zas | apply Zao | apply Zal | apply Zab | apply Zak
      | ((with_reducible refine Zai ?_ ?_); exact rfl) | ((with_reducible refine Zat ?_); refine Zam rfl ?_ ?_ <;> intro hb <;> (try simp only [zH] at hb)) | ((with_reducible refine Zau 3 ?_ ?_); (· exact rfl); (with_reducible refine Zau 4 ?_ ?_); (· exact rfl); (first | refine Zaf htb hmz Zby fF rfl rfl ?_ | refine Zae hmo htb hmz Zby fF rfl rfl (by kernel_rfl) ?_); intro _ _ _ _ h; simp only [zE, evp, evx, ev1, evLoad, evStore, evBin, evIf, Zad, forall_const, z38, tb, reduceAdd, reduceSub, reduceMul, reduceEqDiff, reduceLeDiff, reduceLT, Nat.reduceBEq, Nat.reduceBNe, ↓reduceIte, reduceIte, spAe, clmS, Zdu] at h; obtain ⟨rfl, rfl, rfl, rfl⟩ := h; refine ⟨?_, ?_⟩) | ((with_reducible refine Ob.mk ?_); first | exact trivial | (intros; omega) | ((repeat' first | apply And.intro | (intro a; have b := a; try simp only [zH] at b)) <;> first | assumption | omega | (simp only [zH]; omega)))
    · repeat' first
        | with_reducible first | apply Zar | apply Zan | apply Zaa | apply Zac | apply Zah | apply Zap | apply Zag | apply Zaj | apply Zaq | apply Zas | apply Zao | apply Zal | apply Zab | apply Zak
        | ((with_reducible refine Zai ?_ ?_); exact rfl) | ((with_reducible refine Zat ?_); refine Zam rfl ?_ ?_ <;> intro hb <;> (try simp only [zH] at hb)) | ((with_reducible refine Zaz ?_); (first | refine Zaf htb hmz Zby fF rfl rfl ?_ | refine Zae hmo htb hmz Zby fF rfl rfl (by kernel_rfl) ?_); intro _ _ _ _ h; simp only [zE, evp, evx, ev1, evLoad, evStore, evBin, evIf, Zad, forall_const, z38, tb, reduceAdd, reduceSub, reduceMul, reduceEqDiff, reduceLeDiff, reduceLT, Nat.reduceBEq, Nat.reduceBNe, ↓reduceIte, reduceIte, spAe, clmS, Zdu] at h; obtain ⟨rfl, rfl, rfl, rfl⟩ := h; refine ⟨?_, ?_⟩) | ((with_reducible refine Ob.mk ?_); first | exact trivial | (intros; omega) | ((repeat' first | apply And.intro | (intro a; have b := a; try simp only [zH] at b)) <;> first | assumption | omega | (simp only [zH]; omega)))
      refine Zax rfl rfl (Zaw rfl ?_ rfl)
      rfl
    · exact absurd hb (by decide)
end Go.Proofs.YtdhoadhkkecjjaaDoor.Cal
