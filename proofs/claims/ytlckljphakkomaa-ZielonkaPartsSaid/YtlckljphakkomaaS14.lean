/- Own texts of the proof, merged, in order. -/
import Derived.Test.YtlckljphakkomaaS13
set_option linter.unusedVariables false
set_option linter.unusedSimpArgs false
namespace Go.Proofs.Ytlckljphakkomaa.Cal
section
def up (f : Nat → Int) (v : Nat) (a : Int) : Nat → Int := fun w => if w = v then a else f w
theorem up_same {f : Nat → Int} {v : Nat} {a : Int} : up f v a v = a := if_pos rfl
theorem up_ne {f : Nat → Int} {v w : Nat} {a : Int} (h : w ≠ v) : up f v a w = f w := if_neg h
inductive Rch (E : Nat → Nat → Prop) : Nat → Nat → Prop
  | refl (a : Nat) : Rch E a a
  | step {a b c : Nat} : Rch E a b → E b c → Rch E a c
theorem Rch.trans {E : Nat → Nat → Prop} {a b c : Nat} (h : Rch E a b) (h2 : Rch E b c) : Rch E a c := by
  induction h2 with
  | refl => exact h
  | step _ e ih => exact .step ih e
theorem Rch.one {E : Nat → Nat → Prop} {a b : Nat} (h : E a b) : Rch E a b := .step (.refl a) h
theorem Rch.closed {E : Nat → Nat → Prop} {C : Nat → Prop} (hC : ∀ a b, C a → E a b → C b) {a b : Nat} (h : Rch E a b) (ha : C a) : C b := by
  induction h with
  | refl => exact ha
  | step _ e ih => exact hC _ _ ih e
theorem Rch.mono {E E' : Nat → Nat → Prop} (hE : ∀ a b, E a b → E' a b) {a b : Nat} (h : Rch E a b) : Rch E' a b := by
  induction h with
  | refl => exact .refl _
  | step _ e ih => exact .step ih (hE _ _ e)
def Ed (row : Nat → List Nat) (ok : Nat → Prop) (v t : Nat) : Prop := t ∈ row v ∧ ok t
structure TJ (n : Nat) (row : Nat → List Nat) (ok : Nat → Prop) (num low nx of : Nat → Int) (path stack : List Nat) (cnt many : Int) : Prop where
  n0 : ∀ v, v < n → 0 ≤ num v ∧ num v ≤ cnt
  inj : ∀ v w, v < n → w < n → 0 < num v → num v = num w → v = w
  mok : ∀ v, v < n → 0 < num v → ok v
  stk : ∀ v, v ∈ stack ↔ v < n ∧ 0 < num v ∧ of v < 0
  srt : stack.Pairwise fun a b => num a < num b
  psub : path.Sublist stack
  nx0 : ∀ v, v < n → 0 ≤ nx v ∧ nx v ≤ (row v).length
  fin : ∀ v, v < n → 0 < num v → v ∉ path → nx v = (row v).length
  met : ∀ v, v < n → 0 < num v → ∀ j : Nat, (j : Int) < nx v → ok ((row v).getD j 0) → 0 < num ((row v).getD j 0)
  nun : ∀ v, v < n → num v = 0 → nx v = 0
  cls : ∀ v, v < n → 0 ≤ of v → ∀ t, Ed row ok v t → 0 ≤ of t
  ofr : ∀ v, v < n → of v < many ∧ (0 ≤ of v → 0 < num v)
  ofn : ∀ v, v < n → -1 ≤ of v
  scc : ∀ v w, v < n → w < n → 0 ≤ of v → 0 ≤ of w → (of v = of w ↔ Rch (Ed row ok) v w ∧ Rch (Ed row ok) w v)
  i8 : ∀ v, v ∈ path → ∀ w, w ∈ stack → num v ≤ num w → Rch (Ed row ok) v w
  lw : ∀ w, w ∈ stack → ∃ u, u ∈ stack ∧ low w = num u ∧ Rch (Ed row ok) w u
  ll : ∀ w, w ∈ stack → low w ≤ num w
  i10a : ∀ w, w ∈ stack → w ∉ path → low w < num w
  i10b : ∀ p, p ∈ path → ∀ w, w ∈ stack → num p ≤ num w → (∀ p', p' ∈ path → num p' ≤ num w → num p' ≤ num p) → low p ≤ low w
  i11 : ∀ w, w ∈ stack → ∀ j : Nat, (j : Int) < nx w → ok ((row w).getD j 0) → (row w).getD j 0 ∈ stack → low w ≤ num ((row w).getD j 0)
  i12 : ∀ w, w ∈ stack → ∃ p, p ∈ path ∧ num p ≤ num w
  m0 : 0 ≤ many
  mc : many + stack.length ≤ cnt
section
variable {n : Nat} {row : Nat → List Nat} {ok : Nat → Prop} {num low nx of : Nat → Int} {path stack : List Nat} {cnt many : Int}
theorem TJ.pn (H : TJ n row ok num low nx of path stack cnt many) {v : Nat} (h : v ∈ path) : v ∈ stack := H.psub.subset h
theorem TJ.psrt (H : TJ n row ok num low nx of path stack cnt many) : path.Pairwise fun a b => num a < num b := H.srt.sublist H.psub
theorem TJ.last (H : TJ n row ok num low nx of path stack cnt many) {p : List Nat} {v : Nat} (h : path = p ++ [v]) : ∀ w, w ∈ p → num w < num v := by
  intro w hw
  have := H.psrt
  rw [h, List.pairwise_append] at this
  exact this.2.2 w hw v List.mem_cons_self
theorem TJ.lastle (H : TJ n row ok num low nx of path stack cnt many) {p : List Nat} {v : Nat} (h : path = p ++ [v]) : ∀ w, w ∈ path → num w ≤ num v := by
  intro w hw
  rw [h] at hw
  rcases List.mem_append.1 hw with hw | hw
  · have := H.last h w hw; omega
  · rw [List.mem_singleton.1 hw]; exact Int.le_refl _
/-- A position is met. -/
theorem TJ.enter (H : TJ n row ok num low nx of path stack cnt many) (hrow : ∀ v, v < n → ∀ t, t ∈ row v → t < n) {t : Nat} (ht : t < n) (hok : ok t) (hn : num t = 0) (hof : of t < 0)
    (hm : path = [] ∨ ∃ p v, path = p ++ [v] ∧ Ed row ok v t) :
    TJ n row ok (up num t (cnt + 1)) (up low t (cnt + 1)) nx of (path ++ [t]) (stack ++ [t]) (cnt + 1) many := by
  have hts : t ∉ stack := fun h => by have := ((H.stk t).1 h).2.1; omega
  have htp : t ∉ path := fun h => hts (H.pn h)
  have hcn : 0 ≤ cnt := by have := (H.n0 t ht).1; have := (H.n0 t ht).2; omega
  have hsn : ∀ w, w ∈ stack → up num t (cnt + 1) w = num w := fun w h => up_ne (fun e => hts (e ▸ h))
  have hsl : ∀ w, w ∈ stack → up low t (cnt + 1) w = low w := fun w h => up_ne (fun e => hts (e ▸ h))
  have hpn : ∀ w, w ∈ path → up num t (cnt + 1) w = num w := fun w h => hsn w (H.pn h)
  have hsb : ∀ w, w ∈ stack → w < n ∧ num w ≤ cnt := fun w h => by have h1 := ((H.stk w).1 h).1; exact ⟨h1, (H.n0 w h1).2⟩
  have hgt : ∀ w, 0 < num w → 0 < up num t (cnt + 1) w := fun w h => by
    by_cases e : w = t
    · subst e; rw [up_same]; omega
    · rw [up_ne e]; exact h
  have hto : ∀ v w, v ∈ stack → w = t → Rch (Ed row ok) v w → True := fun _ _ _ _ _ => trivial
  have hps : path = [] → stack = [] := fun h => by
    cases hs : stack with
    | nil => rfl
    | cons a l =>
      obtain ⟨p, hp, _⟩ := H.i12 a (by rw [hs]; exact List.mem_cons_self)
      rw [h] at hp; exact absurd hp List.not_mem_nil
  refine { n0 := fun v hv => ?_, inj := fun v w hv hw h1 h2 => ?_, mok := fun v hv h => ?_, stk := fun v => ?_, srt := ?_, psub := H.psub.append (List.Sublist.refl _), nx0 := H.nx0, fin := fun v hv h1 h2 => ?_, met := fun v hv h1 j hj h2 => ?_, nun := fun v hv h => ?_, cls := H.cls, ofr := fun v hv => ?_, ofn := H.ofn, scc := H.scc, i8 := fun v hv w hw h => ?_, lw := fun w hw => ?_, ll := fun w hw => ?_, i10a := fun w hw h => ?_, i10b := fun p hp w hw h1 h2 => ?_, i11 := fun w hw j hj h1 h2 => ?_, i12 := fun w hw => ?_, m0 := H.m0, mc := ?_ }
  · by_cases e : v = t
    · subst e; rw [up_same]; omega
    · rw [up_ne e]; have := H.n0 v hv; omega
  · by_cases e : v = t
    · by_cases e2 : w = t
      · rw [e, e2]
      · rw [e, up_same, up_ne e2] at h2
        have := (H.n0 w hw).2; omega
    · rw [up_ne e] at h1 h2
      by_cases e2 : w = t
      · rw [e2, up_same] at h2
        have := (H.n0 v hv).2; omega
      · rw [up_ne e2] at h2; exact H.inj v w hv hw h1 h2
  · by_cases e : v = t
    · rw [e]; exact hok
    · rw [up_ne e] at h; exact H.mok v hv h
  · rw [List.mem_append, List.mem_singleton]
    by_cases e : v = t
    · subst e
      rw [up_same]
      exact ⟨fun _ => ⟨ht, by omega, hof⟩, fun _ => .inr rfl⟩
    · rw [up_ne e]
      exact ⟨fun h => h.elim (fun h => (H.stk v).1 h) (fun h => absurd h e), fun h => .inl ((H.stk v).2 h)⟩
  · rw [List.pairwise_append]
    refine ⟨H.srt.imp_of_mem fun {a b} ha hb h => ?_, List.pairwise_singleton _ _, fun a ha b hb => ?_⟩
    · rw [hsn a ha, hsn b hb]; exact h
    · rw [List.mem_singleton.1 hb, up_same, hsn a ha]; have := (hsb a ha).2; omega
  · rw [List.mem_append, List.mem_singleton, not_or] at h2
    rw [up_ne h2.2] at h1
    exact H.fin v hv h1 h2.1
  · by_cases e : v = t
    · subst e; have := H.nun v hv hn; omega
    · rw [up_ne e] at h1
      exact hgt _ (H.met v hv h1 j hj h2)
  · by_cases e : v = t
    · subst e; rw [up_same] at h; omega
    · rw [up_ne e] at h; exact H.nun v hv h
  · refine ⟨(H.ofr v hv).1, fun h => hgt _ ((H.ofr v hv).2 h)⟩
  · rw [List.mem_append, List.mem_singleton] at hv hw
    rcases hv with hv | rfl
    · rcases hw with hw | rfl
      · rw [hpn v hv, hsn w hw] at h; exact H.i8 v hv w hw h
      · rcases hm with hm | ⟨p, u, hm, he⟩
        · rw [hm] at hv; exact absurd hv List.not_mem_nil
        · exact .step (H.i8 v hv u (H.pn (by rw [hm]; exact List.mem_append_right _ List.mem_cons_self)) (H.lastle hm v hv)) he
    · rcases hw with hw | rfl
      · rw [up_same, hsn w hw] at h; have := (hsb w hw).2; omega
      · exact .refl _
  · rw [List.mem_append, List.mem_singleton] at hw
    rcases hw with hw | rfl
    · obtain ⟨u, h1, h2, h3⟩ := H.lw w hw
      exact ⟨u, List.mem_append_left _ h1, by rw [hsl w hw, hsn u h1]; exact h2, h3⟩
    · exact ⟨w, List.mem_append_right _ List.mem_cons_self, by rw [up_same, up_same], .refl _⟩
  · rw [List.mem_append, List.mem_singleton] at hw
    rcases hw with hw | rfl
    · rw [hsl w hw, hsn w hw]; exact H.ll w hw
    · rw [up_same, up_same]; exact Int.le_refl _
  · rw [List.mem_append, List.mem_singleton] at hw h
    rw [not_or] at h
    rcases hw with hw | rfl
    · rw [hsl w hw, hsn w hw]; exact H.i10a w hw h.1
    · exact absurd rfl h.2
  · rw [List.mem_append, List.mem_singleton] at hw hp
    rcases hw with hw | rfl
    · rcases hp with hp | rfl
      · rw [hpn p hp, hsn w hw] at h1
        rw [hsl w hw, hsl p (H.pn hp)]
        refine H.i10b p hp w hw h1 fun p' hp' h => ?_
        have := h2 p' (List.mem_append_left _ hp') (by rw [hpn p' hp', hsn w hw]; exact h)
        rw [hpn p' hp', hpn p hp] at this; exact this
      · rw [up_same, hsn w hw] at h1; have := (hsb w hw).2; omega
    · rcases hp with hp | rfl
      · have := h2 w (List.mem_append_right _ List.mem_cons_self) (Int.le_refl _)
        rw [up_same, hpn p hp] at this
        have := (hsb p (H.pn hp)).2; omega
      · exact Int.le_refl _
  · rw [List.mem_append, List.mem_singleton] at hw
    rcases hw with hw | rfl
    · obtain ⟨hwn, hwp, _⟩ := (H.stk w).1 hw
      have hm2 := H.met w hwn hwp j hj h1
      have hne : (row w).getD j 0 ≠ t := fun e => by rw [e] at hm2; omega
      rw [hsl w hw, up_ne hne]
      rw [List.mem_append, List.mem_singleton] at h2
      exact H.i11 w hw j hj h1 (h2.elim id fun h => absurd h hne)
    · have := H.nun w ht hn; omega
  · rw [List.mem_append, List.mem_singleton] at hw
    rcases hw with hw | rfl
    · obtain ⟨p, hp, h⟩ := H.i12 w hw
      exact ⟨p, List.mem_append_left _ hp, by rw [hpn p hp, hsn w hw]; exact h⟩
    · exact ⟨w, List.mem_append_right _ List.mem_cons_self, Int.le_refl _⟩
  · have := H.mc
    rw [List.length_append, List.length_singleton]; omega
theorem TJ.first (H : TJ n row ok num low nx of path stack cnt many) {v : Nat} (hp : path = [v]) : low v = num v := by
  have hv : v ∈ path := by rw [hp]; exact List.mem_cons_self
  obtain ⟨u, h1, h2, _⟩ := H.lw v (H.pn hv)
  obtain ⟨a, ha, h⟩ := H.i12 u h1
  rw [hp, List.mem_singleton] at ha
  subst ha
  have := H.ll a (H.pn hv)
  omega
end
/-! Sums -/
def sm (f : Nat → Int) : Nat → Int
  | 0 => 0
  | n + 1 => sm f n + f n
theorem sm_same {f h : Nat → Int} : ∀ {n : Nat}, (∀ v, v < n → f v = h v) → sm f n = sm h n
  | 0, _ => rfl
  | n + 1, H => by rw [sm, sm, sm_same fun v hv => H v (by omega), H n (by omega)]
theorem sm_up {f : Nat → Int} {v : Nat} {a : Int} : ∀ {n : Nat}, v < n → sm (up f v a) n = sm f n - f v + a
  | 0, h => absurd h (Nat.not_lt_zero v)
  | n + 1, h => by
    rw [sm, sm]
    by_cases e : v = n
    · subst e
      rw [up_same, sm_same (f := up f v a) (h := f) fun w hw => up_ne (by omega)]
      omega
    · rw [sm_up (n := n) (by omega), up_ne (by omega)]
      omega
theorem sm_nonneg {f : Nat → Int} : ∀ {n : Nat}, (∀ v, v < n → 0 ≤ f v) → 0 ≤ sm f n
  | 0, _ => by unfold sm; omega
  | n + 1, H => by rw [sm]; have := sm_nonneg (f := f) (n := n) fun v hv => H v (by omega); have := H n (by omega); omega
end
section
open Go Pl
/-- The rows of a game as numbers. -/
def okP (p : List Int) (top : Int) (v : Nat) : Prop := p.getD v 0 ≤ top
theorem upL {xs : List Int} {v : Nat} {a : Int} (h : v < xs.length) : (fun w => (xs.set v a).getD w 0) = up (fun w => xs.getD w 0) v a := by
  funext w
  rw [getD_set h]; rfl
structure TS where
  num : List Int
  low : List Int
  nx : List Int
  of : List Int
  path : List Nat
  stack : List Nat
  cnt : Int
  many : Int
  i : Nat
def unm (num : List Int) (v : Nat) : Int := if num.getD v 0 = 0 then 1 else 0
structure TV (n : Nat) (p : List Int) (x : List (List Int)) (top : Int) (s : TS) : Prop where
  ln : s.num.length = n
  ll : s.low.length = n
  lx : s.nx.length = n
  lo : s.of.length = n
  tj : TJ n (rws x) (okP p top) (fun v => s.num.getD v 0) (fun v => s.low.getD v 0) (fun v => s.nx.getD v 0) (fun v => s.of.getD v 0) s.path s.stack s.cnt s.many
  cn : s.cnt + sm (unm s.num) n = n
  im : s.i ≤ n
  dn : ∀ v, v < s.i → okP p top v → 0 < s.num.getD v 0
theorem TV.facts {n : Nat} {p : List Int} {x : List (List Int)} {top : Int} {s : TS} (H : TV n p x top s) : 0 ≤ s.cnt ∧ s.cnt ≤ n ∧ 0 ≤ s.many ∧ s.many ≤ n ∧ s.path.length ≤ n ∧ s.stack.length ≤ n ∧ (∀ v, v ∈ s.path → v < n) ∧ (∀ v, v ∈ s.stack → v < n) := by
  have h1 : 0 ≤ sm (unm s.num) n := sm_nonneg fun v hv => by unfold unm; split <;> omega
  have h2 := H.cn
  have h3 := H.tj.mc
  have h4 := H.tj.m0
  have h5 : ∀ v, v ∈ s.stack → v < n := fun v h => ((H.tj.stk v).1 h).1
  have h6 := H.tj.psub.length_le
  refine ⟨by omega, by omega, h4, by omega, by omega, by omega, fun v h => h5 v (H.tj.pn h), h5⟩
section
variable {n : Nat} {p : List Int} {x : List (List Int)} {top : Int} {s : TS}
theorem TV.next (H : TV n p x top s) (hi : s.i < n) (hd : okP p top s.i → 0 < s.num.getD s.i 0) : TV n p x top { s with i := s.i + 1 } :=
  { H with
    im := hi
    dn := fun v hv ho => (Nat.lt_succ_iff_lt_or_eq.1 hv).elim (fun h => H.dn v h ho) (fun h => by subst h; exact hd ho) }
theorem TV.enter (H : TV n p x top s) (hrow : ∀ v, v < n → ∀ t, t ∈ rws x v → t < n) {t : Nat} (ht : t < n) (hok : okP p top t) (hn : s.num.getD t 0 = 0) (hm : s.path = [] ∨ ∃ q v, s.path = q ++ [v] ∧ Ed (rws x) (okP p top) v t) :
    TV n p x top { s with num := s.num.set t (s.cnt + 1), low := s.low.set t (s.cnt + 1), path := s.path ++ [t], stack := s.stack ++ [t], cnt := s.cnt + 1 } := by
  have h1 : t < s.num.length := by rw [H.ln]; exact ht
  have h2 : t < s.low.length := by rw [H.ll]; exact ht
  have hof : s.of.getD t 0 < 0 := by
    rcases Int.lt_or_le (s.of.getD t 0) 0 with h | h
    · exact h
    · have := (H.tj.ofr t ht).2 h
      have : 0 < s.num.getD t 0 := this
      omega
  have hc := H.facts.1
  have hj := H.tj.enter hrow ht hok hn hof hm
  refine { ln := by rw [List.length_set]; exact H.ln, ll := by rw [List.length_set]; exact H.ll, lx := H.lx, lo := H.lo, tj := by rw [upL h1, upL h2]; exact hj, cn := ?_, im := H.im, dn := fun v hv ho => ?_ }
  · have e : unm (s.num.set t (s.cnt + 1)) = up (unm s.num) t 0 := by
      funext w
      unfold unm up
      dsimp only
      rw [getD_set h1]
      by_cases e : w = t
      · rw [if_pos e, if_pos e, if_neg (by omega)]
      · rw [if_neg e, if_neg e]
    have e2 : unm s.num t = 1 := if_pos hn
    have := H.cn
    dsimp only
    rw [e, sm_up ht, e2]; omega
  · have := H.dn v hv ho
    show 0 < (s.num.set t (s.cnt + 1)).getD v 0
    rw [getD_set h1]
    split
    · omega
    · exact this
end
theorem map_last {p : List Nat} {v : Nat} : ((p ++ [v]).map fun v : Nat => (v : Int)).getD (((((p ++ [v]).map fun v : Nat => (v : Int)).length : Nat) : Int) - 1).toNat 0 = v := by
  have : (((((p ++ [v]).map fun v : Nat => (v : Int)).length : Nat) : Int) - 1).toNat = p.length := by
    rw [List.length_map, List.length_append, List.length_singleton]; omega
  rw [this, List.map_append, List.getD_eq_getElem?_getD, List.getElem?_append_right (by rw [List.length_map]; exact Nat.le_refl _), List.length_map, Nat.sub_self]; rfl
theorem map_cut {p : List Nat} {v : Nat} : ((p ++ [v]).map fun v : Nat => (v : Int)).take (((((p ++ [v]).map fun v : Nat => (v : Int)).length : Nat) : Int) - 1).toNat = p.map fun v : Nat => (v : Int) := by
  have : (((((p ++ [v]).map fun v : Nat => (v : Int)).length : Nat) : Int) - 1).toNat = (p.map fun v : Nat => (v : Int)).length := by
    rw [List.length_map, List.length_append, List.length_singleton, List.length_map]; omega
  rw [this, List.map_append, List.take_left']
  rfl
end
section
open Go Pl
/-- By at least one move, through positions up to a priority. -/
def Rch1 (g : Gm) (top : Int) (v w : Nat) : Prop := ∃ t, Ed (rws g.nxt) (okP g.pri top) v t ∧ Rch (Ed (rws g.nxt) (okP g.pri top)) t w
theorem Rch.head {E : Nat → Nat → Prop} {a b : Nat} (h : Rch E a b) : a = b ∨ ∃ t, E a t ∧ Rch E t b := by
  induction h with
  | refl => exact .inl rfl
  | step h e ih =>
    rcases ih with rfl | ⟨t, h1, h2⟩
    · exact .inr ⟨_, e, .refl _⟩
    · exact .inr ⟨t, h1, .step h2 e⟩
end
section
open Go Pl
def RchA (x : List (List Int)) : Nat → Nat → Prop := Rch fun a b => b ∈ rws x a
theorem RchA.cons {x : List (List Int)} {a b c : Nat} (h : b ∈ rws x a) (h2 : RchA x b c) : RchA x a c := Rch.trans (Rch.one h) h2
/-- A position that comes again by a way whose greatest priority is its own and the player's. -/
def again (g : Gm) (pl : Int) (v : Nat) : Prop := g.pri.getD v 0 % 2 = pl ∧ Rch1 g (g.pri.getD v 0) v v
/-- From where a player who chooses alone wins. -/
def alone (g : Gm) (pl : Int) (v : Nat) : Prop := ∃ w, w < g.own.length ∧ again g pl w ∧ RchA g.nxt v w
open Classical in
noncomputable def aloneL (g : Gm) (pl : Int) : List Bool := (List.range g.own.length).map fun v => decide (alone g pl v)
theorem aloneL_getD {g : Gm} {pl : Int} {v : Nat} (hv : v < g.own.length) : (aloneL g pl).getD v false = true ↔ alone g pl v := by
  simp [aloneL, List.getD_eq_getElem?_getD, hv]
theorem aloneL_eq {g : Gm} {pl : Int} {l : List Bool} (hl : l.length = g.own.length) (h : ∀ v, v < g.own.length → (l.getD v false = true ↔ alone g pl v)) : l = aloneL g pl := by
  refine List.ext_getElem (by simp [aloneL, hl]) fun j h1 h2 => ?_
  have h3 := h j (by omega)
  have h4 := aloneL_getD (g := g) (pl := pl) (v := j) (by omega)
  rw [List.getD_eq_getElem?_getD, List.getElem?_eq_getElem h1] at h3
  rw [List.getD_eq_getElem?_getD, List.getElem?_eq_getElem h2] at h4
  simp only [Option.getD_some] at h3 h4
  exact Bool.eq_iff_iff.2 (h3.trans h4.symm)
end
end Go.Proofs.Ytlckljphakkomaa.Cal
namespace Go.Proofs.Ytlckljphakkomaa.Cal
open Go Pl
theorem cf_set : ∀ {l : List Bool} {t : Nat}, t < l.length → l.getD t false = false → (l.set t true).count false + 1 = l.count false
  | [], t, h, _ => absurd h (Nat.not_lt_zero t)
  | a :: l, 0, _, h2 => by
    have : a = false := h2
    subst this
    simp
  | a :: l, t + 1, h, h2 => by
    have := cf_set (l := l) (t := t) (by simpa using h) h2
    rw [List.set_cons_succ, List.count_cons, List.count_cons]; omega
/-- What holds while positions behind s are looked for: l those to be looked at. -/
structure FI (n : Nat) (x : List (List Int)) (ok : Nat → Prop) (s : Nat) (out : List Bool) (l : List Nat) (ex : Nat → Prop) : Prop where
  len : out.length = n
  lb : ∀ u, u ∈ l → u < n
  rc : ∀ u, u < n → out.getD u false = true → ∃ t, Ed (rws x) ok s t ∧ Rch (Ed (rws x) ok) t u
  ls : ∀ u, u ∈ l → u = s ∨ out.getD u false = true
  cl : ∀ u, u < n → (u = s ∨ out.getD u false = true) → u ∈ l ∨ ex u ∨ ∀ t, Ed (rws x) ok u t → out.getD t false = true
  ll : l.length + out.count false ≤ n + 1
structure FwS where
  out : List Bool
  l : List Nat
structure FwJ where
  out : List Bool
  l : List Nat
  r : Nat
section
variable {n : Nat} {x : List (List Int)} {ok : Nat → Prop} {s v : Nat} {out : List Bool} {l : List Nat}
theorem FI_begin (hs : s < n) : FI n x ok s (List.replicate n false) [s] fun _ => False := by
  have h0 : ∀ u, (List.replicate n false).getD u false = false := fun u => by
    rw [List.getD_eq_getElem?_getD, List.getElem?_replicate]; split <;> rfl
  refine { len := List.length_replicate, lb := fun u h => by rw [List.mem_singleton.1 h]; exact hs, rc := fun u _ h => ?_, ls := fun u h => .inl (List.mem_singleton.1 h), cl := fun u _ h => ?_, ll := by simp; omega }
  · rw [h0 u] at h; cases h
  · rcases h with h | h
    · exact .inl (List.mem_singleton.2 h)
    · rw [h0 u] at h; cases h
theorem FI_pop (H : FI n x ok s out (l ++ [v]) fun _ => False) : FI n x ok s out l (fun u => u = v) ∧ v < n ∧ (v = s ∨ out.getD v false = true) := by
  have hv : v ∈ l ++ [v] := List.mem_append_right _ List.mem_cons_self
  refine ⟨{ len := H.len, lb := fun u h => H.lb u (List.mem_append_left _ h), rc := H.rc, ls := fun u h => H.ls u (List.mem_append_left _ h), cl := fun u hu h => ?_, ll := ?_ }, H.lb v hv, H.ls v hv⟩
  · rcases H.cl u hu h with h | h | h
    · rcases List.mem_append.1 h with h | h
      · exact .inl h
      · exact .inr (.inl (List.mem_singleton.1 h))
    · exact h.elim
    · exact .inr (.inr h)
  · have := H.ll
    rw [List.length_append] at this
    omega
theorem FI_add (H : FI n x ok s out l fun u => u = v) (hv : v < n) (hs : v = s ∨ out.getD v false = true) {t : Nat} (ht : t < n) (he : Ed (rws x) ok v t) (ho : out.getD t false = false) :
    FI n x ok s (out.set t true) (l ++ [t]) fun u => u = v := by
  have htl : t < out.length := by rw [H.len]; exact ht
  have hgd : ∀ u, (out.set t true).getD u false = if u = t then true else out.getD u false := fun u => getD_set htl
  refine { len := by rw [List.length_set]; exact H.len, lb := fun u h => ?_, rc := fun u hu h => ?_, ls := fun u h => ?_, cl := fun u hu h => ?_, ll := ?_ }
  · rcases List.mem_append.1 h with h | h
    · exact H.lb u h
    · rw [List.mem_singleton.1 h]; exact ht
  · rw [hgd] at h
    by_cases e : u = t
    · subst e
      rcases hs with rfl | h2
      · exact ⟨u, he, .refl _⟩
      · obtain ⟨t', h3, h4⟩ := H.rc v hv h2
        exact ⟨t', h3, .step h4 he⟩
    · rw [if_neg e] at h; exact H.rc u hu h
  · rw [hgd]
    rcases List.mem_append.1 h with h | h
    · rcases H.ls u h with h | h
      · exact .inl h
      · right; split
        · rfl
        · exact h
    · right; rw [if_pos (List.mem_singleton.1 h)]
  · rw [hgd] at h
    by_cases e : u = t
    · exact .inl (List.mem_append_right _ (List.mem_singleton.2 e))
    · rw [if_neg e] at h
      rcases H.cl u hu h with h | h | h
      · exact .inl (List.mem_append_left _ h)
      · exact .inr (.inl h)
      · refine .inr (.inr fun w hw => ?_)
        rw [hgd]; split
        · rfl
        · exact h w hw
  · have h1 := cf_set htl ho
    have h2 := H.ll
    rw [List.length_append, List.length_singleton]; omega
theorem FI_end (H : FI n x ok s out l fun u => u = v) (h : ∀ t, Ed (rws x) ok v t → out.getD t false = true) : FI n x ok s out l fun _ => False :=
  { H with cl := fun u hu hs => (H.cl u hu hs).elim .inl fun h1 => h1.elim (fun h1 => by subst h1; exact .inr (.inr h)) fun h1 => .inr (.inr h1) }
theorem FI_done (H : FI n x ok s out [] fun _ => False) (hs : s < n) (hrow : ∀ v, v < n → ∀ t, t ∈ rws x v → t < n) {u : Nat} (hu : u < n) :
    out.getD u false = true ↔ ∃ t, Ed (rws x) ok s t ∧ Rch (Ed (rws x) ok) t u := by
  constructor
  · exact H.rc u hu
  · rintro ⟨t, h1, h2⟩
    have hcl : ∀ u, u < n → (u = s ∨ out.getD u false = true) → ∀ t, Ed (rws x) ok u t → out.getD t false = true := fun u hu h => by
      rcases H.cl u hu h with h | h | h
      · exact absurd h List.not_mem_nil
      · exact h.elim
      · exact h
    have ht := hcl s hs (.inl rfl) t h1
    have htn := hrow s hs t h1.1
    exact (h2.closed (C := fun v => v < n ∧ out.getD v false = true) (fun a b ha hb => ⟨hrow a ha.1 b hb.1, hcl a ha.1 (.inr ha.2) b hb⟩) ⟨htn, ht⟩).2
end
open Classical in
noncomputable def reachL (g : Gm) (s : Nat) (top : Int) : List Bool := (List.range g.own.length).map fun v => decide (Rch1 g top s v)
theorem reachL_len {g : Gm} {s : Nat} {top : Int} : (reachL g s top).length = g.own.length := by simp [reachL]
theorem reachL_getD {g : Gm} {s : Nat} {top : Int} {v : Nat} (hv : v < g.own.length) : (reachL g s top).getD v false = true ↔ Rch1 g top s v := by
  simp [reachL, List.getD_eq_getElem?_getD, hv]
theorem reachL_eq {g : Gm} {s : Nat} {top : Int} {l : List Bool} (hl : l.length = g.own.length) (h : ∀ v, v < g.own.length → (l.getD v false = true ↔ Rch1 g top s v)) : l = reachL g s top := by
  refine List.ext_getElem (by rw [hl, reachL_len]) fun j h1 h2 => ?_
  have h3 := h j (by omega)
  have h4 := reachL_getD (g := g) (s := s) (top := top) (v := j) (by omega)
  rw [List.getD_eq_getElem?_getD, List.getElem?_eq_getElem h1] at h3
  rw [List.getD_eq_getElem?_getD, List.getElem?_eq_getElem h2] at h4
  simp only [Option.getD_some] at h3 h4
  exact Bool.eq_iff_iff.2 (h3.trans h4.symm)
/-! The reference's own two loops -/
noncomputable def rgood (g : Gm) (pl : Int) (v : Nat) : Bool := decide (g.pri.getD v 0 % 2 = pl) && (reachL g v (g.pri.getD v 0)).getD v false
theorem rgood_iff {g : Gm} {pl : Int} {v : Nat} (hv : v < g.own.length) : rgood g pl v = true ↔ again g pl v := by
  unfold rgood again
  rw [Bool.and_eq_true, decide_eq_true_iff, reachL_getD hv]
/-- The first j positions that are reached, or the position itself. -/
noncomputable def rsome (g : Gm) (pl : Int) (v : Nat) : Nat → Bool
  | 0 => rgood g pl v
  | j + 1 => rsome g pl v j || (reachL g v 60).getD j false && rgood g pl j
theorem rsome_iff {g : Gm} {pl : Int} {v : Nat} : ∀ {j : Nat}, rsome g pl v j = true ↔ rgood g pl v = true ∨ ∃ w, w < j ∧ (reachL g v 60).getD w false = true ∧ rgood g pl w = true
  | 0 => ⟨.inl, fun h => h.elim id fun ⟨w, h, _⟩ => absurd h (Nat.not_lt_zero w)⟩
  | j + 1 => by
    rw [rsome, Bool.or_eq_true, rsome_iff, Bool.and_eq_true]
    constructor
    · rintro ((h | ⟨w, h1, h2⟩) | h)
      · exact .inl h
      · exact .inr ⟨w, by omega, h2⟩
      · exact .inr ⟨j, by omega, h⟩
    · rintro (h | ⟨w, h1, h2⟩)
      · exact .inl (.inl h)
      · by_cases e : w = j
        · subst e; exact .inr h2
        · exact .inl (.inr ⟨w, by omega, h2⟩)
theorem rsome_all {g : Gm} {pl : Int} (hpr : ∀ v, v < g.own.length → g.pri.getD v 0 ≤ 60) (hrow : ∀ v, v < g.own.length → ∀ t, t ∈ rws g.nxt v → t < g.own.length) {v : Nat} (hv : v < g.own.length) : rsome g pl v g.own.length = true ↔ alone g pl v := by
  rw [rsome_iff]
  unfold alone
  constructor
  · rintro (h | ⟨w, h1, h2, h3⟩)
    · exact ⟨v, hv, (rgood_iff hv).1 h, .refl _⟩
    · obtain ⟨t, h4, h5⟩ := (reachL_getD h1).1 h2
      exact ⟨w, h1, (rgood_iff h1).1 h3, RchA.cons h4.1 (Rch.mono (fun a b h => h.1) h5)⟩
  · rintro ⟨w, h1, h2, h3⟩
    rcases Rch.head h3 with e | ⟨t, h4, h5⟩
    · subst e; exact .inl ((rgood_iff h1).2 h2)
    · refine .inr ⟨w, h1, (reachL_getD h1).2 ⟨t, ⟨h4, hpr t (hrow v hv t h4)⟩, ?_⟩, (rgood_iff h1).2 h2⟩
      have ht := hrow v hv t h4
      have : ∀ {a b : Nat}, Rch (fun a b => b ∈ rws g.nxt a) a b → a < g.own.length → Rch (Ed (rws g.nxt) (okP g.pri 60)) a b ∧ b < g.own.length := fun {a b} h ha => by
        induction h with
        | refl => exact ⟨.refl _, ha⟩
        | step _ e ih =>
          have hb := hrow _ ih.2 _ e
          exact ⟨.step ih.1 ⟨e, hpr _ hb⟩, hb⟩
      exact (this h5 ht).1
noncomputable def reachS : Spec
  | [.agg (.cons (.roI o) (.cons (.roI p) (.cons (.roII x) .nil))), .int .i64 f, .int .i64 top] => some ⟨validB ⟨o, p, x⟩ = true ∧ 0 ≤ f ∧ f < (o.length : Int), .roB (reachL ⟨o, p, x⟩ f.toNat top), none⟩
  | _ => none
def spNo : Nat → Option Spec := fun _ => none
theorem spNo_ok : SpOK Try.prog spNo := fun f S h => by cases h
set_option maxRecDepth 4000 in
set_option maxHeartbeats 4000000 in
theorem reaches_ok : FSpec Try.prog 39 reachS := by
  refine fspec_of htb (fn := Try.f39) (by kernel_rfl) (by kernel_rfl) rfl (fun args r hS => ?_) (fun args r hS hob hl => ?_)
  · unfold reachS at hS; split at hS <;> first | (cases hS; done) | (cases hS; exact Nat.le_of_ble_eq_true rfl)
  unfold reachS at hS
  split at hS
  case h_2 => cases hS
  rename_i o p x f top
  simp only [Option.some.injEq] at hS
  subst hS
  simp only [lenP, mkL, lim] at hl
  dsimp only at hob
  obtain ⟨hv, hf0, hf1⟩ := hob
  obtain ⟨f, rfl⟩ := Int.eq_ofNat_of_zero_le hf0
  have hV := validB_iff.1 hv
  obtain ⟨hn, hpl, hxl, hpos⟩ := id hV
  simp only [Gm.n] at hn hpl hxl
  have hrl : ∀ v, v < o.length → (x.getD v []).length ≤ 64 := fun v h => by
    obtain ⟨⟨a1, a2, a3, a4, _, a6⟩, _⟩ := hpos v (by simp only [Gm.n]; omega)
    exact a6
  have hrb : ∀ v, v < o.length → ∀ j, j < (x.getD v []).length → 0 ≤ (x.getD v []).getD j 0 ∧ (x.getD v []).getD j 0 < o.length := fun v h j hj => by
    obtain ⟨_, hr⟩ := hpos v (by simp only [Gm.n]; omega)
    exact ⟨(hr j hj).1, (hr j hj).2.1⟩
  repeat' first
    | with_reducible first | refine awp_seq ?_ | refine awp_block ?_ | refine next_then ?_ | refine next_block ?_ | refine exit_then ?_ | refine ret_then ?_ | refine ret_block ?_ | refine exit_here ?_ | refine awp_exit ?_ | refine awp_ret ?_ | refine awp_skip ?_ | refine awp_label ?_ | refine next_noGoto ?_ | refine ret_noGoto ?_ | refine exit_noGoto ?_ | refine awp_scope ?_
    | ((with_reducible refine exit_past ?_ ?_); exact rfl)
    | ((with_reducible refine isCond ?_); refine awp_condO rfl ?_ ?_ <;> intro hb <;> (try simp only [zH] at hb))
    | ((with_reducible refine isRegS 2 ?_ ?_); (· exact rfl); (first | refine awp_textM htb hmz spNo_ok (fun _ => false) rfl rfl ?_ | refine awp_drawM hmo htb hmz spNo_ok (fun _ => false) rfl rfl (by kernel_rfl) ?_); intro m' e' l' ob h; simp only [zE0, zE1, zE2, zE3, zE4, zE5, evp, evx, ev1, evLoad, evStore, evBin, isBoolK, forall_const, z38, tb, Nat.reduceAdd, Nat.reduceSub, Nat.reduceMul, Nat.reduceEqDiff, Nat.reduceLeDiff, Nat.reduceLT, Nat.reduceBEq, Nat.reduceBNe, ↓reduceIte, reduceIte, spNo] at h; obtain ⟨rfl, rfl, rfl, rfl⟩ := h; refine ⟨?_, ?_⟩)
    | ((with_reducible refine Ob.mk ?_); first | exact trivial | (intros; omega) | ((repeat' first | apply And.intro | (intro hg; have hg' := hg; try simp only [zH] at hg')) <;> first | assumption | omega | (simp only [zH]; omega)))
  (refine awp_textM htb hmz spNo_ok (fun i => Nat.beq i 1) rfl rfl ?_; intro m' e' l' ob h; simp only [zE0, zE1, zE2, zE3, zE4, zE5, evp, evx, ev1, evLoad, evStore, evBin, isBoolK, forall_const, z38, tb, Nat.reduceAdd, Nat.reduceSub, Nat.reduceMul, Nat.reduceEqDiff, Nat.reduceLeDiff, Nat.reduceLT, Nat.reduceBEq, Nat.reduceBNe, ↓reduceIte, reduceIte, spNo] at h; obtain ⟨rfl, rfl, rfl, rfl⟩ := h; refine ⟨?_, ?_⟩)
  · first | ((with_reducible refine Ob.mk ?_); first | exact trivial | (intros; omega) | ((repeat' first | apply And.intro | (intro hg; have hg' := hg; try simp only [zH] at hg')) <;> first | assumption | omega | (simp only [zH]; omega))) | skip
  repeat' first
    | with_reducible first | refine awp_seq ?_ | refine awp_block ?_ | refine next_then ?_ | refine next_block ?_ | refine exit_then ?_ | refine ret_then ?_ | refine ret_block ?_ | refine exit_here ?_ | refine awp_exit ?_ | refine awp_ret ?_ | refine awp_skip ?_ | refine awp_label ?_ | refine next_noGoto ?_ | refine ret_noGoto ?_ | refine exit_noGoto ?_ | refine awp_scope ?_
    | ((with_reducible refine exit_past ?_ ?_); exact rfl)
    | ((with_reducible refine isCond ?_); refine awp_condO rfl ?_ ?_ <;> intro hb <;> (try simp only [zH] at hb))
    | ((with_reducible refine isReg ?_); (first | refine awp_textM htb hmz spNo_ok (fun _ => false) rfl rfl ?_ | refine awp_drawM hmo htb hmz spNo_ok (fun _ => false) rfl rfl (by kernel_rfl) ?_); intro m' e' l' ob h; simp only [zE0, zE1, zE2, zE3, zE4, zE5, evp, evx, ev1, evLoad, evStore, evBin, isBoolK, forall_const, z38, tb, Nat.reduceAdd, Nat.reduceSub, Nat.reduceMul, Nat.reduceEqDiff, Nat.reduceLeDiff, Nat.reduceLT, Nat.reduceBEq, Nat.reduceBNe, ↓reduceIte, reduceIte, spNo] at h; obtain ⟨rfl, rfl, rfl, rfl⟩ := h; refine ⟨?_, ?_⟩)
    | ((with_reducible refine Ob.mk ?_); first | exact trivial | (intros; omega) | ((repeat' first | apply And.intro | (intro hg; have hg' := hg; try simp only [zH] at hg')) <;> first | assumption | omega | (simp only [zH]; omega)))
  refine awp_loopC (τ := FwS) (fun s => FI o.length x (okP p top) f s.out s.l fun _ => False) (fun s => ⟨10, [(8, .own 8), (7, .own 5), (3, .rop (.agg (.cons (.roI o) (.cons (.roI p) (.cons (.roII x) .nil))))), (2, .int .i64 top)],
    [(5, some (.bools s.out)), (8, some (.ints (s.l.map fun v : Nat => (v : Int))))], []⟩) (fun s => 2 * s.out.count false + s.l.length) ⟨List.replicate o.length false, [f]⟩ [] ?_ (FI_begin (by omega)) ?_
  · (refine ⟨rfl, ?_, ?_⟩ <;> simp only [zE0, zE1, zE2, zE3, zE4, zE5, evp, evx, ev1, evLoad, evStore, evBin, isBoolK, forall_const, z38, tb, Nat.reduceAdd, Nat.reduceSub, Nat.reduceMul, Nat.reduceEqDiff, Nat.reduceLeDiff, Nat.reduceLT, Nat.reduceBEq, Nat.reduceBNe, ↓reduceIte, reduceIte, spNo, zI])
  rintro ⟨out, l⟩ hd
  have hol := hd.len
  have hll := hd.ll
  dsimp only at hll hol
  dsimp only
  have hlm : (l.map fun v : Nat => (v : Int)).length = l.length := List.length_map ..
  repeat' first
    | with_reducible first | refine awp_seq ?_ | refine awp_block ?_ | refine next_then ?_ | refine next_block ?_ | refine exit_then ?_ | refine ret_then ?_ | refine ret_block ?_ | refine exit_here ?_ | refine awp_exit ?_ | refine awp_ret ?_ | refine awp_skip ?_ | refine awp_label ?_ | refine next_noGoto ?_ | refine ret_noGoto ?_ | refine exit_noGoto ?_ | refine awp_scope ?_
    | ((with_reducible refine exit_past ?_ ?_); exact rfl)
    | ((with_reducible refine isCond ?_); refine awp_condO rfl ?_ ?_ <;> intro hb <;> (try simp only [zH] at hb))
    | ((with_reducible refine isRegS 4 ?_ ?_); (· exact rfl); (with_reducible refine isRegS 13 ?_ ?_); (· exact rfl); (first | refine awp_textM htb hmz spNo_ok (fun _ => false) rfl rfl ?_ | refine awp_drawM hmo htb hmz spNo_ok (fun _ => false) rfl rfl (by kernel_rfl) ?_); intro m' e' l' ob h; simp only [zE0, zE1, zE2, zE3, zE4, zE5, evp, evx, ev1, evLoad, evStore, evBin, isBoolK, forall_const, z38, tb, Nat.reduceAdd, Nat.reduceSub, Nat.reduceMul, Nat.reduceEqDiff, Nat.reduceLeDiff, Nat.reduceLT, Nat.reduceBEq, Nat.reduceBNe, ↓reduceIte, reduceIte, spNo] at h; obtain ⟨rfl, rfl, rfl, rfl⟩ := h; refine ⟨?_, ?_⟩)
    | ((with_reducible refine Ob.mk ?_); first | exact trivial | (intros; omega) | ((repeat' first | apply And.intro | (intro hg; have hg' := hg; try simp only [zH] at hg')) <;> first | assumption | omega | (simp only [zH]; omega)))
  · obtain ⟨q, v, rfl⟩ : ∃ q v, l = q ++ [v] := by
      rcases List.eq_nil_or_concat l with h | ⟨q, v, h⟩
      · subst h; simp at hb
      · exact ⟨q, v, by rw [h, List.concat_eq_append]⟩
    obtain ⟨hP, hvn, hvs⟩ := FI_pop hd
    have hpl2 : (q ++ [v]).length = q.length + 1 := by rw [List.length_append]; rfl
    repeat' first
      | with_reducible first | refine awp_seq ?_ | refine awp_block ?_ | refine next_then ?_ | refine next_block ?_ | refine exit_then ?_ | refine ret_then ?_ | refine ret_block ?_ | refine exit_here ?_ | refine awp_exit ?_ | refine awp_ret ?_ | refine awp_skip ?_ | refine awp_label ?_ | refine next_noGoto ?_ | refine ret_noGoto ?_ | refine exit_noGoto ?_ | refine awp_scope ?_
      | ((with_reducible refine exit_past ?_ ?_); exact rfl)
      | ((with_reducible refine isCond ?_); refine awp_condO rfl ?_ ?_ <;> intro hb <;> (try simp only [zH] at hb))
      | ((with_reducible refine isRegS 5 ?_ ?_); (· exact rfl); (first | refine awp_textM htb hmz spNo_ok (fun _ => false) rfl rfl ?_ | refine awp_drawM hmo htb hmz spNo_ok (fun _ => false) rfl rfl (by kernel_rfl) ?_); intro m' e' l' ob h; simp only [zE0, zE1, zE2, zE3, zE4, zE5, evp, evx, ev1, evLoad, evStore, evBin, isBoolK, forall_const, z38, tb, Nat.reduceAdd, Nat.reduceSub, Nat.reduceMul, Nat.reduceEqDiff, Nat.reduceLeDiff, Nat.reduceLT, Nat.reduceBEq, Nat.reduceBNe, ↓reduceIte, reduceIte, spNo] at h; obtain ⟨rfl, rfl, rfl, rfl⟩ := h; refine ⟨?_, ?_⟩)
      | ((with_reducible refine Ob.mk ?_); first | exact trivial | (intros; omega) | ((repeat' first | apply And.intro | (intro hg; have hg' := hg; try simp only [zH] at hg')) <;> first | assumption | omega | (simp only [zH]; omega)))
    rw [map_last]
    repeat' first
      | with_reducible first | refine awp_seq ?_ | refine awp_block ?_ | refine next_then ?_ | refine next_block ?_ | refine exit_then ?_ | refine ret_then ?_ | refine ret_block ?_ | refine exit_here ?_ | refine awp_exit ?_ | refine awp_ret ?_ | refine awp_skip ?_ | refine awp_label ?_ | refine next_noGoto ?_ | refine ret_noGoto ?_ | refine exit_noGoto ?_ | refine awp_scope ?_
      | ((with_reducible refine exit_past ?_ ?_); exact rfl)
      | ((with_reducible refine isCond ?_); refine awp_condO rfl ?_ ?_ <;> intro hb <;> (try simp only [zH] at hb))
      | ((with_reducible refine isRegS 6 ?_ ?_); (· exact rfl); (first | refine awp_textM htb hmz spNo_ok (fun _ => false) rfl rfl ?_ | refine awp_drawM hmo htb hmz spNo_ok (fun _ => false) rfl rfl (by kernel_rfl) ?_); intro m' e' l' ob h; simp only [zE0, zE1, zE2, zE3, zE4, zE5, evp, evx, ev1, evLoad, evStore, evBin, isBoolK, forall_const, z38, tb, Nat.reduceAdd, Nat.reduceSub, Nat.reduceMul, Nat.reduceEqDiff, Nat.reduceLeDiff, Nat.reduceLT, Nat.reduceBEq, Nat.reduceBNe, ↓reduceIte, reduceIte, spNo] at h; obtain ⟨rfl, rfl, rfl, rfl⟩ := h; refine ⟨?_, ?_⟩)
      | ((with_reducible refine Ob.mk ?_); first | exact trivial | (intros; omega) | ((repeat' first | apply And.intro | (intro hg; have hg' := hg; try simp only [zH] at hg')) <;> first | assumption | omega | (simp only [zH]; omega)))
    rw [map_cut]
    have hqm : (q.map fun v : Nat => (v : Int)).length = q.length := List.length_map ..
    have hlq := hP.ll
    have hv0 : ((v : Nat) : Int).toNat = v := Int.toNat_natCast v
    repeat' first
      | with_reducible first | refine awp_seq ?_ | refine awp_block ?_ | refine next_then ?_ | refine next_block ?_ | refine exit_then ?_ | refine ret_then ?_ | refine ret_block ?_ | refine exit_here ?_ | refine awp_exit ?_ | refine awp_ret ?_ | refine awp_skip ?_ | refine awp_label ?_ | refine next_noGoto ?_ | refine ret_noGoto ?_ | refine exit_noGoto ?_ | refine awp_scope ?_
      | ((with_reducible refine exit_past ?_ ?_); exact rfl)
      | ((with_reducible refine isCond ?_); refine awp_condO rfl ?_ ?_ <;> intro hb <;> (try simp only [zH] at hb))
      | ((with_reducible refine isReg ?_); (first | refine awp_textM htb hmz spNo_ok (fun _ => false) rfl rfl ?_ | refine awp_drawM hmo htb hmz spNo_ok (fun _ => false) rfl rfl (by kernel_rfl) ?_); intro m' e' l' ob h; simp only [zE0, zE1, zE2, zE3, zE4, zE5, evp, evx, ev1, evLoad, evStore, evBin, isBoolK, forall_const, z38, tb, Nat.reduceAdd, Nat.reduceSub, Nat.reduceMul, Nat.reduceEqDiff, Nat.reduceLeDiff, Nat.reduceLT, Nat.reduceBEq, Nat.reduceBNe, ↓reduceIte, reduceIte, spNo] at h; obtain ⟨rfl, rfl, rfl, rfl⟩ := h; refine ⟨?_, ?_⟩)
      | ((with_reducible refine Ob.mk ?_); first | exact trivial | (intros; omega) | ((repeat' first | apply And.intro | (intro hg; have hg' := hg; try simp only [zH] at hg')) <;> first | assumption | omega | (simp only [zH]; omega)))
    have hrlv := hrl v hvn
    have hrbv := hrb v hvn
    have hgr : ∀ j, (rws x v).getD j 0 = ((x.getD v []).getD j 0).toNat := fun j => rws_getD
    have hgl : (rws x v).length = (x.getD v []).length := rws_len
    generalize hrw : x.getD v [] = rw at *
    refine awp_loopC (τ := FwJ) (fun t => t.r ≤ rw.length ∧ (FI o.length x (okP p top) f t.out t.l fun u => u = v) ∧ (v = f ∨ t.out.getD v false = true) ∧ 2 * t.out.count false + t.l.length < 2 * out.count false + (q ++ [v]).length ∧ ∀ w, w ∈ (rws x v).take t.r → okP p top w → t.out.getD w false = true) (fun t => ⟨33, [(38, .int .i64 t.r), (37, .int .i64 rw.length), (36, .roI rw), (8, .own 24), (7, .own 5), (3, .rop (.agg (.cons (.roI o) (.cons (.roI p) (.cons (.roII x) .nil))))), (2, .int .i64 top)],
      [(5, some (.bools t.out)), (24, some (.ints (t.l.map fun v : Nat => (v : Int))))], []⟩) (fun t => rw.length - t.r) ⟨out, q, 0⟩ [] ?_ ⟨Nat.zero_le _, hP, hvs, by dsimp only; omega, fun w hw => by simp at hw⟩ ?_
    · (refine ⟨rfl, ?_, ?_⟩ <;> simp only [zE0, zE1, zE2, zE3, zE4, zE5, evp, evx, ev1, evLoad, evStore, evBin, isBoolK, forall_const, z38, tb, Nat.reduceAdd, Nat.reduceSub, Nat.reduceMul, Nat.reduceEqDiff, Nat.reduceLeDiff, Nat.reduceLT, Nat.reduceBEq, Nat.reduceBNe, ↓reduceIte, reduceIte, spNo, zI])
    clear hP hvs hlq hqm hd hol hll
    rintro ⟨out2, l, r⟩ ⟨hr, hP, hvs, hms, hdn⟩
    dsimp only at hr hms hvs hdn hP ⊢
    have hol := hP.len
    have hll := hP.ll
    have hlm : (l.map fun v : Nat => (v : Int)).length = l.length := List.length_map ..
    have hrbv := hrbv r
    have hgr := hgr r
    repeat' first
      | with_reducible first | refine awp_seq ?_ | refine awp_block ?_ | refine next_then ?_ | refine next_block ?_ | refine exit_then ?_ | refine ret_then ?_ | refine ret_block ?_ | refine exit_here ?_ | refine awp_exit ?_ | refine awp_ret ?_ | refine awp_skip ?_ | refine awp_label ?_ | refine next_noGoto ?_ | refine ret_noGoto ?_ | refine exit_noGoto ?_ | refine awp_scope ?_
      | ((with_reducible refine exit_past ?_ ?_); exact rfl)
      | ((with_reducible refine isCond ?_); refine awp_condO rfl ?_ ?_ <;> intro hb <;> (try simp only [zH] at hb))
      | ((with_reducible refine isReg ?_); (first | refine awp_textM htb hmz spNo_ok (fun _ => false) rfl rfl ?_ | refine awp_drawM hmo htb hmz spNo_ok (fun _ => false) rfl rfl (by kernel_rfl) ?_); intro m' e' l' ob h; simp only [zE0, zE1, zE2, zE3, zE4, zE5, evp, evx, ev1, evLoad, evStore, evBin, isBoolK, forall_const, z38, tb, Nat.reduceAdd, Nat.reduceSub, Nat.reduceMul, Nat.reduceEqDiff, Nat.reduceLeDiff, Nat.reduceLT, Nat.reduceBEq, Nat.reduceBNe, ↓reduceIte, reduceIte, spNo] at h; obtain ⟨rfl, rfl, rfl, rfl⟩ := h; refine ⟨?_, ?_⟩)
      | ((with_reducible refine Ob.mk ?_); first | exact trivial | (intros; omega) | ((repeat' first | apply And.intro | (intro hg; have hg' := hg; try simp only [zH] at hg')) <;> first | assumption | omega | (simp only [zH]; omega)))
    · have hrr : r < rw.length := by omega
      obtain ⟨u1, u2⟩ := hrbv hrr
      have hed : Ed (rws x) (okP p top) v (rw.getD r 0).toNat := ⟨by
        rw [← hgr, List.getD_eq_getElem?_getD, List.getElem?_eq_getElem (by omega)]; exact List.getElem_mem _, hb.1⟩
      have hun : (rw.getD r 0).toNat < o.length := by omega
      have hcf := cf_set (l := out2) (t := (rw.getD r 0).toNat) (by omega) hb.2
      have hgs : ∀ u, (out2.set (rw.getD r 0).toNat true).getD u false = if u = (rw.getD r 0).toNat then true else out2.getD u false := fun u => getD_set (by omega)
      refine back ⟨out2.set (rw.getD r 0).toNat true, l ++ [(rw.getD r 0).toNat], r + 1⟩ [(24, 58)] ?_ ⟨by dsimp only; omega, FI_add hP hvn hvs hun hed hb.2, ?_, ?_, fun w hw ho => ?_⟩ (by dsimp only; omega)
      · (refine ⟨rfl, ?_, ?_⟩ <;> simp only [zE0, zE1, zE2, zE3, zE4, zE5, evp, evx, ev1, evLoad, evStore, evBin, isBoolK, forall_const, z38, tb, Nat.reduceAdd, Nat.reduceSub, Nat.reduceMul, Nat.reduceEqDiff, Nat.reduceLeDiff, Nat.reduceLT, Nat.reduceBEq, Nat.reduceBNe, ↓reduceIte, reduceIte, spNo, zI])
        rw [List.map_append, List.map_cons, List.map_nil]
        have : (((rw.getD r 0).toNat : Nat) : Int) = rw.getD r 0 := by omega
        rw [this]
      · dsimp only
        rw [hgs]
        rcases hvs with h | h
        · exact .inl h
        · right; split
          · rfl
          · exact h
      · dsimp only
        rw [List.length_append, List.length_singleton]; omega
      · dsimp only at hw ⊢
        rw [hgs]
        split
        · rfl
        · rename_i hne
          rw [take1 (d := 0) (by omega), hgr] at hw
          rcases List.mem_append.1 hw with h | h
          · exact hdn w h ho
          · exact absurd (List.mem_singleton.1 h) hne
    · have hrr : r < rw.length := by omega
      refine back ⟨out2, l, r + 1⟩ [] ?_ ⟨by dsimp only; omega, hP, hvs, hms, fun w hw ho => ?_⟩ (by dsimp only; omega)
      · (refine ⟨rfl, ?_, ?_⟩ <;> simp only [zE0, zE1, zE2, zE3, zE4, zE5, evp, evx, ev1, evLoad, evStore, evBin, isBoolK, forall_const, z38, tb, Nat.reduceAdd, Nat.reduceSub, Nat.reduceMul, Nat.reduceEqDiff, Nat.reduceLeDiff, Nat.reduceLT, Nat.reduceBEq, Nat.reduceBNe, ↓reduceIte, reduceIte, spNo, zI])
      · dsimp only at hw ⊢
        rw [take1 (d := 0) (by omega), hgr] at hw
        rcases List.mem_append.1 hw with h | h
        · exact hdn w h ho
        · have e := List.mem_singleton.1 h
          rw [e] at ho ⊢
          rcases hb with h2 | h2
          · unfold okP at ho; omega
          · exact h2
    · have hre : r = rw.length := by omega
      subst hre
      refine back ⟨out2, l⟩ [(8, 24)] ?_ (FI_end hP fun t ht => hdn t ?_ ht.2) (by dsimp only; omega)
      · (refine ⟨rfl, ?_, ?_⟩ <;> simp only [zE0, zE1, zE2, zE3, zE4, zE5, evp, evx, ev1, evLoad, evStore, evBin, isBoolK, forall_const, z38, tb, Nat.reduceAdd, Nat.reduceSub, Nat.reduceMul, Nat.reduceEqDiff, Nat.reduceLeDiff, Nat.reduceLT, Nat.reduceBEq, Nat.reduceBNe, ↓reduceIte, reduceIte, spNo, zI])
      · rw [List.take_of_length_le (by omega)]; exact ht.1
  have hl0 : l = [] := by
    cases l with
    | nil => rfl
    | cons a l => simp only [List.map_cons, List.length_cons] at hb; omega
  subst hl0
  refine awp_fzN 5 (.roB out) (by simp only [lkr_cons, lkr_nil, fzE, fzA, fzR, fzB, set1, nbeq, Nat.reduceEqDiff, decide_true, decide_false, ↓reduceIte, reduceIte, cond_true, cond_false, List.take_length, Option.some.injEq]; rfl) (by first | exact rfl | (refine ⟨?_, rfl⟩; first | rfl | (intros; rfl))) (by simp only [lkr_cons, lkr_nil, fzE, fzA, fzR, fzB, set1, nbeq, Nat.reduceEqDiff, decide_true, decide_false, ↓reduceIte, reduceIte, cond_true, cond_false, List.take_length, Option.some.injEq]; rfl) (by simp only [lkr_cons, lkr_nil, fzE, fzA, fzR, fzB, set1, nbeq, Nat.reduceEqDiff, decide_true, decide_false, ↓reduceIte, reduceIte, cond_true, cond_false, List.take_length, Option.some.injEq]; rfl) ?_
  repeat' first
    | with_reducible first | refine awp_seq ?_ | refine awp_block ?_ | refine next_then ?_ | refine next_block ?_ | refine exit_then ?_ | refine ret_then ?_ | refine ret_block ?_ | refine exit_here ?_ | refine awp_exit ?_ | refine awp_ret ?_ | refine awp_skip ?_ | refine awp_label ?_ | refine next_noGoto ?_ | refine ret_noGoto ?_ | refine exit_noGoto ?_ | refine awp_scope ?_
    | ((with_reducible refine exit_past ?_ ?_); exact rfl)
    | ((with_reducible refine isCond ?_); refine awp_condO rfl ?_ ?_ <;> intro hb <;> (try simp only [zH] at hb))
    | ((with_reducible refine isReg ?_); (first | refine awp_textM htb hmz spNo_ok (fun _ => false) rfl rfl ?_ | refine awp_drawM hmo htb hmz spNo_ok (fun _ => false) rfl rfl (by kernel_rfl) ?_); intro m' e' l' ob h; simp only [zE0, zE1, zE2, zE3, zE4, zE5, evp, evx, ev1, evLoad, evStore, evBin, isBoolK, forall_const, z38, tb, Nat.reduceAdd, Nat.reduceSub, Nat.reduceMul, Nat.reduceEqDiff, Nat.reduceLeDiff, Nat.reduceLT, Nat.reduceBEq, Nat.reduceBNe, ↓reduceIte, reduceIte, spNo] at h; obtain ⟨rfl, rfl, rfl, rfl⟩ := h; refine ⟨?_, ?_⟩)
    | ((with_reducible refine Ob.mk ?_); first | exact trivial | (intros; omega) | ((repeat' first | apply And.intro | (intro hg; have hg' := hg; try simp only [zH] at hg')) <;> first | assumption | omega | (simp only [zH]; omega)))
  refine fin_ret rfl rfl (spec_flat rfl ?_ rfl)
  refine congrArg AV.roB (reachL_eq hol fun v hv => ?_)
  exact FI_done hd (by omega) (fun v hv t ht => by
      obtain ⟨j, hj, rfl⟩ := List.getElem_of_mem ht
      rw [rws_len] at hj
      have := hrb v hv j hj
      have e : (rws x v)[j] = (rws x v).getD j 0 := by rw [List.getD_eq_getElem?_getD, List.getElem?_eq_getElem (by rw [rws_len]; exact hj)]; rfl
      rw [e, rws_getD]; omega) hv
end Go.Proofs.Ytlckljphakkomaa.Cal
