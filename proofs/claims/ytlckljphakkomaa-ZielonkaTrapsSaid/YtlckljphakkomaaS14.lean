/- Own texts of the proof, merged, in order. -/
import Derived.Test.YtlckljphakkomaaS13
set_option linter.unusedVariables false
set_option linter.unusedSimpArgs false
namespace Go.Proofs.Ytlckljphakkomaa.Cal
section
def up (f : Nat → Int) (v : Nat) (a : Int) : Nat → Int := fun w => if w = v then a else f w
theorem up_same {f : Nat → Int} {v : Nat} {a : Int} : up f v a v = a := if_pos rfl
theorem up_ne {f : Nat → Int} {v w : Nat} {a : Int} (h : w ≠ v) : up f v a w = f w := if_neg h
inductive Rch (E : Nat → Nat → Prop) : Nat → Nat → Prop
  | refl (a : Nat) : Rch E a a
  | step {a b c : Nat} : Rch E a b → E b c → Rch E a c
theorem Rch.trans {E : Nat → Nat → Prop} {a b c : Nat} (h : Rch E a b) (h2 : Rch E b c) : Rch E a c := by
  induction h2 with
  | refl => exact h
  | step _ e ih => exact .step ih e
theorem Rch.one {E : Nat → Nat → Prop} {a b : Nat} (h : E a b) : Rch E a b := .step (.refl a) h
theorem Rch.closed {E : Nat → Nat → Prop} {C : Nat → Prop} (hC : ∀ a b, C a → E a b → C b) {a b : Nat} (h : Rch E a b) (ha : C a) : C b := by
  induction h with
  | refl => exact ha
  | step _ e ih => exact hC _ _ ih e
theorem Rch.mono {E E' : Nat → Nat → Prop} (hE : ∀ a b, E a b → E' a b) {a b : Nat} (h : Rch E a b) : Rch E' a b := by
  induction h with
  | refl => exact .refl _
  | step _ e ih => exact .step ih (hE _ _ e)
def Ed (row : Nat → List Nat) (ok : Nat → Prop) (v t : Nat) : Prop := t ∈ row v ∧ ok t
structure TJ (n : Nat) (row : Nat → List Nat) (ok : Nat → Prop) (num low nx of : Nat → Int) (path stack : List Nat) (cnt many : Int) : Prop where
  n0 : ∀ v, v < n → 0 ≤ num v ∧ num v ≤ cnt
  inj : ∀ v w, v < n → w < n → 0 < num v → num v = num w → v = w
  mok : ∀ v, v < n → 0 < num v → ok v
  stk : ∀ v, v ∈ stack ↔ v < n ∧ 0 < num v ∧ of v < 0
  srt : stack.Pairwise fun a b => num a < num b
  psub : path.Sublist stack
  nx0 : ∀ v, v < n → 0 ≤ nx v ∧ nx v ≤ (row v).length
  fin : ∀ v, v < n → 0 < num v → v ∉ path → nx v = (row v).length
  met : ∀ v, v < n → 0 < num v → ∀ j : Nat, (j : Int) < nx v → ok ((row v).getD j 0) → 0 < num ((row v).getD j 0)
  nun : ∀ v, v < n → num v = 0 → nx v = 0
  cls : ∀ v, v < n → 0 ≤ of v → ∀ t, Ed row ok v t → 0 ≤ of t
  ofr : ∀ v, v < n → of v < many ∧ (0 ≤ of v → 0 < num v)
  ofn : ∀ v, v < n → -1 ≤ of v
  scc : ∀ v w, v < n → w < n → 0 ≤ of v → 0 ≤ of w → (of v = of w ↔ Rch (Ed row ok) v w ∧ Rch (Ed row ok) w v)
  i8 : ∀ v, v ∈ path → ∀ w, w ∈ stack → num v ≤ num w → Rch (Ed row ok) v w
  lw : ∀ w, w ∈ stack → ∃ u, u ∈ stack ∧ low w = num u ∧ Rch (Ed row ok) w u
  ll : ∀ w, w ∈ stack → low w ≤ num w
  i10a : ∀ w, w ∈ stack → w ∉ path → low w < num w
  i10b : ∀ p, p ∈ path → ∀ w, w ∈ stack → num p ≤ num w → (∀ p', p' ∈ path → num p' ≤ num w → num p' ≤ num p) → low p ≤ low w
  i11 : ∀ w, w ∈ stack → ∀ j : Nat, (j : Int) < nx w → ok ((row w).getD j 0) → (row w).getD j 0 ∈ stack → low w ≤ num ((row w).getD j 0)
  i12 : ∀ w, w ∈ stack → ∃ p, p ∈ path ∧ num p ≤ num w
  m0 : 0 ≤ many
  mc : many + stack.length ≤ cnt
section
variable {n : Nat} {row : Nat → List Nat} {ok : Nat → Prop} {num low nx of : Nat → Int} {path stack : List Nat} {cnt many : Int}
theorem TJ.pn (H : TJ n row ok num low nx of path stack cnt many) {v : Nat} (h : v ∈ path) : v ∈ stack := H.psub.subset h
theorem TJ.psrt (H : TJ n row ok num low nx of path stack cnt many) : path.Pairwise fun a b => num a < num b := H.srt.sublist H.psub
theorem TJ.last (H : TJ n row ok num low nx of path stack cnt many) {p : List Nat} {v : Nat} (h : path = p ++ [v]) : ∀ w, w ∈ p → num w < num v := by
  intro w hw
  have := H.psrt
  rw [h, List.pairwise_append] at this
  exact this.2.2 w hw v List.mem_cons_self
theorem TJ.lastle (H : TJ n row ok num low nx of path stack cnt many) {p : List Nat} {v : Nat} (h : path = p ++ [v]) : ∀ w, w ∈ path → num w ≤ num v := by
  intro w hw
  rw [h] at hw
  rcases List.mem_append.1 hw with hw | hw
  · have := H.last h w hw; omega
  · rw [List.mem_singleton.1 hw]; exact Int.le_refl _
/-- A position is met. -/
theorem TJ.enter (H : TJ n row ok num low nx of path stack cnt many) (hrow : ∀ v, v < n → ∀ t, t ∈ row v → t < n) {t : Nat} (ht : t < n) (hok : ok t) (hn : num t = 0) (hof : of t < 0)
    (hm : path = [] ∨ ∃ p v, path = p ++ [v] ∧ Ed row ok v t) :
    TJ n row ok (up num t (cnt + 1)) (up low t (cnt + 1)) nx of (path ++ [t]) (stack ++ [t]) (cnt + 1) many := by
  have hts : t ∉ stack := fun h => by have := ((H.stk t).1 h).2.1; omega
  have htp : t ∉ path := fun h => hts (H.pn h)
  have hcn : 0 ≤ cnt := by have := (H.n0 t ht).1; have := (H.n0 t ht).2; omega
  have hsn : ∀ w, w ∈ stack → up num t (cnt + 1) w = num w := fun w h => up_ne (fun e => hts (e ▸ h))
  have hsl : ∀ w, w ∈ stack → up low t (cnt + 1) w = low w := fun w h => up_ne (fun e => hts (e ▸ h))
  have hpn : ∀ w, w ∈ path → up num t (cnt + 1) w = num w := fun w h => hsn w (H.pn h)
  have hsb : ∀ w, w ∈ stack → w < n ∧ num w ≤ cnt := fun w h => by have h1 := ((H.stk w).1 h).1; exact ⟨h1, (H.n0 w h1).2⟩
  have hgt : ∀ w, 0 < num w → 0 < up num t (cnt + 1) w := fun w h => by
    by_cases e : w = t
    · subst e; rw [up_same]; omega
    · rw [up_ne e]; exact h
  have hto : ∀ v w, v ∈ stack → w = t → Rch (Ed row ok) v w → True := fun _ _ _ _ _ => trivial
  have hps : path = [] → stack = [] := fun h => by
    cases hs : stack with
    | nil => rfl
    | cons a l =>
      obtain ⟨p, hp, _⟩ := H.i12 a (by rw [hs]; exact List.mem_cons_self)
      rw [h] at hp; exact absurd hp List.not_mem_nil
  refine { n0 := fun v hv => ?_, inj := fun v w hv hw h1 h2 => ?_, mok := fun v hv h => ?_, stk := fun v => ?_, srt := ?_, psub := H.psub.append (List.Sublist.refl _), nx0 := H.nx0, fin := fun v hv h1 h2 => ?_, met := fun v hv h1 j hj h2 => ?_, nun := fun v hv h => ?_, cls := H.cls, ofr := fun v hv => ?_, ofn := H.ofn, scc := H.scc, i8 := fun v hv w hw h => ?_, lw := fun w hw => ?_, ll := fun w hw => ?_, i10a := fun w hw h => ?_, i10b := fun p hp w hw h1 h2 => ?_, i11 := fun w hw j hj h1 h2 => ?_, i12 := fun w hw => ?_, m0 := H.m0, mc := ?_ }
  · by_cases e : v = t
    · subst e; rw [up_same]; omega
    · rw [up_ne e]; have := H.n0 v hv; omega
  · by_cases e : v = t
    · by_cases e2 : w = t
      · rw [e, e2]
      · rw [e, up_same, up_ne e2] at h2
        have := (H.n0 w hw).2; omega
    · rw [up_ne e] at h1 h2
      by_cases e2 : w = t
      · rw [e2, up_same] at h2
        have := (H.n0 v hv).2; omega
      · rw [up_ne e2] at h2; exact H.inj v w hv hw h1 h2
  · by_cases e : v = t
    · rw [e]; exact hok
    · rw [up_ne e] at h; exact H.mok v hv h
  · rw [List.mem_append, List.mem_singleton]
    by_cases e : v = t
    · subst e
      rw [up_same]
      exact ⟨fun _ => ⟨ht, by omega, hof⟩, fun _ => .inr rfl⟩
    · rw [up_ne e]
      exact ⟨fun h => h.elim (fun h => (H.stk v).1 h) (fun h => absurd h e), fun h => .inl ((H.stk v).2 h)⟩
  · rw [List.pairwise_append]
    refine ⟨H.srt.imp_of_mem fun {a b} ha hb h => ?_, List.pairwise_singleton _ _, fun a ha b hb => ?_⟩
    · rw [hsn a ha, hsn b hb]; exact h
    · rw [List.mem_singleton.1 hb, up_same, hsn a ha]; have := (hsb a ha).2; omega
  · rw [List.mem_append, List.mem_singleton, not_or] at h2
    rw [up_ne h2.2] at h1
    exact H.fin v hv h1 h2.1
  · by_cases e : v = t
    · subst e; have := H.nun v hv hn; omega
    · rw [up_ne e] at h1
      exact hgt _ (H.met v hv h1 j hj h2)
  · by_cases e : v = t
    · subst e; rw [up_same] at h; omega
    · rw [up_ne e] at h; exact H.nun v hv h
  · refine ⟨(H.ofr v hv).1, fun h => hgt _ ((H.ofr v hv).2 h)⟩
  · rw [List.mem_append, List.mem_singleton] at hv hw
    rcases hv with hv | rfl
    · rcases hw with hw | rfl
      · rw [hpn v hv, hsn w hw] at h; exact H.i8 v hv w hw h
      · rcases hm with hm | ⟨p, u, hm, he⟩
        · rw [hm] at hv; exact absurd hv List.not_mem_nil
        · exact .step (H.i8 v hv u (H.pn (by rw [hm]; exact List.mem_append_right _ List.mem_cons_self)) (H.lastle hm v hv)) he
    · rcases hw with hw | rfl
      · rw [up_same, hsn w hw] at h; have := (hsb w hw).2; omega
      · exact .refl _
  · rw [List.mem_append, List.mem_singleton] at hw
    rcases hw with hw | rfl
    · obtain ⟨u, h1, h2, h3⟩ := H.lw w hw
      exact ⟨u, List.mem_append_left _ h1, by rw [hsl w hw, hsn u h1]; exact h2, h3⟩
    · exact ⟨w, List.mem_append_right _ List.mem_cons_self, by rw [up_same, up_same], .refl _⟩
  · rw [List.mem_append, List.mem_singleton] at hw
    rcases hw with hw | rfl
    · rw [hsl w hw, hsn w hw]; exact H.ll w hw
    · rw [up_same, up_same]; exact Int.le_refl _
  · rw [List.mem_append, List.mem_singleton] at hw h
    rw [not_or] at h
    rcases hw with hw | rfl
    · rw [hsl w hw, hsn w hw]; exact H.i10a w hw h.1
    · exact absurd rfl h.2
  · rw [List.mem_append, List.mem_singleton] at hw hp
    rcases hw with hw | rfl
    · rcases hp with hp | rfl
      · rw [hpn p hp, hsn w hw] at h1
        rw [hsl w hw, hsl p (H.pn hp)]
        refine H.i10b p hp w hw h1 fun p' hp' h => ?_
        have := h2 p' (List.mem_append_left _ hp') (by rw [hpn p' hp', hsn w hw]; exact h)
        rw [hpn p' hp', hpn p hp] at this; exact this
      · rw [up_same, hsn w hw] at h1; have := (hsb w hw).2; omega
    · rcases hp with hp | rfl
      · have := h2 w (List.mem_append_right _ List.mem_cons_self) (Int.le_refl _)
        rw [up_same, hpn p hp] at this
        have := (hsb p (H.pn hp)).2; omega
      · exact Int.le_refl _
  · rw [List.mem_append, List.mem_singleton] at hw
    rcases hw with hw | rfl
    · obtain ⟨hwn, hwp, _⟩ := (H.stk w).1 hw
      have hm2 := H.met w hwn hwp j hj h1
      have hne : (row w).getD j 0 ≠ t := fun e => by rw [e] at hm2; omega
      rw [hsl w hw, up_ne hne]
      rw [List.mem_append, List.mem_singleton] at h2
      exact H.i11 w hw j hj h1 (h2.elim id fun h => absurd h hne)
    · have := H.nun w ht hn; omega
  · rw [List.mem_append, List.mem_singleton] at hw
    rcases hw with hw | rfl
    · obtain ⟨p, hp, h⟩ := H.i12 w hw
      exact ⟨p, List.mem_append_left _ hp, by rw [hpn p hp, hsn w hw]; exact h⟩
    · exact ⟨w, List.mem_append_right _ List.mem_cons_self, Int.le_refl _⟩
  · have := H.mc
    rw [List.length_append, List.length_singleton]; omega
theorem TJ.first (H : TJ n row ok num low nx of path stack cnt many) {v : Nat} (hp : path = [v]) : low v = num v := by
  have hv : v ∈ path := by rw [hp]; exact List.mem_cons_self
  obtain ⟨u, h1, h2, _⟩ := H.lw v (H.pn hv)
  obtain ⟨a, ha, h⟩ := H.i12 u h1
  rw [hp, List.mem_singleton] at ha
  subst ha
  have := H.ll a (H.pn hv)
  omega
end
/-! Sums -/
def sm (f : Nat → Int) : Nat → Int
  | 0 => 0
  | n + 1 => sm f n + f n
theorem sm_same {f h : Nat → Int} : ∀ {n : Nat}, (∀ v, v < n → f v = h v) → sm f n = sm h n
  | 0, _ => rfl
  | n + 1, H => by rw [sm, sm, sm_same fun v hv => H v (by omega), H n (by omega)]
theorem sm_up {f : Nat → Int} {v : Nat} {a : Int} : ∀ {n : Nat}, v < n → sm (up f v a) n = sm f n - f v + a
  | 0, h => absurd h (Nat.not_lt_zero v)
  | n + 1, h => by
    rw [sm, sm]
    by_cases e : v = n
    · subst e
      rw [up_same, sm_same (f := up f v a) (h := f) fun w hw => up_ne (by omega)]
      omega
    · rw [sm_up (n := n) (by omega), up_ne (by omega)]
      omega
theorem sm_nonneg {f : Nat → Int} : ∀ {n : Nat}, (∀ v, v < n → 0 ≤ f v) → 0 ≤ sm f n
  | 0, _ => by unfold sm; omega
  | n + 1, H => by rw [sm]; have := sm_nonneg (f := f) (n := n) fun v hv => H v (by omega); have := H n (by omega); omega
end
section
open Go Pl
/-- The rows of a game as numbers. -/
def okP (p : List Int) (top : Int) (v : Nat) : Prop := p.getD v 0 ≤ top
theorem upL {xs : List Int} {v : Nat} {a : Int} (h : v < xs.length) : (fun w => (xs.set v a).getD w 0) = up (fun w => xs.getD w 0) v a := by
  funext w
  rw [getD_set h]; rfl
structure TS where
  num : List Int
  low : List Int
  nx : List Int
  of : List Int
  path : List Nat
  stack : List Nat
  cnt : Int
  many : Int
  i : Nat
def unm (num : List Int) (v : Nat) : Int := if num.getD v 0 = 0 then 1 else 0
structure TV (n : Nat) (p : List Int) (x : List (List Int)) (top : Int) (s : TS) : Prop where
  ln : s.num.length = n
  ll : s.low.length = n
  lx : s.nx.length = n
  lo : s.of.length = n
  tj : TJ n (rws x) (okP p top) (fun v => s.num.getD v 0) (fun v => s.low.getD v 0) (fun v => s.nx.getD v 0) (fun v => s.of.getD v 0) s.path s.stack s.cnt s.many
  cn : s.cnt + sm (unm s.num) n = n
  im : s.i ≤ n
  dn : ∀ v, v < s.i → okP p top v → 0 < s.num.getD v 0
theorem TV.facts {n : Nat} {p : List Int} {x : List (List Int)} {top : Int} {s : TS} (H : TV n p x top s) : 0 ≤ s.cnt ∧ s.cnt ≤ n ∧ 0 ≤ s.many ∧ s.many ≤ n ∧ s.path.length ≤ n ∧ s.stack.length ≤ n ∧ (∀ v, v ∈ s.path → v < n) ∧ (∀ v, v ∈ s.stack → v < n) := by
  have h1 : 0 ≤ sm (unm s.num) n := sm_nonneg fun v hv => by unfold unm; split <;> omega
  have h2 := H.cn
  have h3 := H.tj.mc
  have h4 := H.tj.m0
  have h5 : ∀ v, v ∈ s.stack → v < n := fun v h => ((H.tj.stk v).1 h).1
  have h6 := H.tj.psub.length_le
  refine ⟨by omega, by omega, h4, by omega, by omega, by omega, fun v h => h5 v (H.tj.pn h), h5⟩
section
variable {n : Nat} {p : List Int} {x : List (List Int)} {top : Int} {s : TS}
theorem TV.next (H : TV n p x top s) (hi : s.i < n) (hd : okP p top s.i → 0 < s.num.getD s.i 0) : TV n p x top { s with i := s.i + 1 } :=
  { H with
    im := hi
    dn := fun v hv ho => (Nat.lt_succ_iff_lt_or_eq.1 hv).elim (fun h => H.dn v h ho) (fun h => by subst h; exact hd ho) }
theorem TV.enter (H : TV n p x top s) (hrow : ∀ v, v < n → ∀ t, t ∈ rws x v → t < n) {t : Nat} (ht : t < n) (hok : okP p top t) (hn : s.num.getD t 0 = 0) (hm : s.path = [] ∨ ∃ q v, s.path = q ++ [v] ∧ Ed (rws x) (okP p top) v t) :
    TV n p x top { s with num := s.num.set t (s.cnt + 1), low := s.low.set t (s.cnt + 1), path := s.path ++ [t], stack := s.stack ++ [t], cnt := s.cnt + 1 } := by
  have h1 : t < s.num.length := by rw [H.ln]; exact ht
  have h2 : t < s.low.length := by rw [H.ll]; exact ht
  have hof : s.of.getD t 0 < 0 := by
    rcases Int.lt_or_le (s.of.getD t 0) 0 with h | h
    · exact h
    · have := (H.tj.ofr t ht).2 h
      have : 0 < s.num.getD t 0 := this
      omega
  have hc := H.facts.1
  have hj := H.tj.enter hrow ht hok hn hof hm
  refine { ln := by rw [List.length_set]; exact H.ln, ll := by rw [List.length_set]; exact H.ll, lx := H.lx, lo := H.lo, tj := by rw [upL h1, upL h2]; exact hj, cn := ?_, im := H.im, dn := fun v hv ho => ?_ }
  · have e : unm (s.num.set t (s.cnt + 1)) = up (unm s.num) t 0 := by
      funext w
      unfold unm up
      dsimp only
      rw [getD_set h1]
      by_cases e : w = t
      · rw [if_pos e, if_pos e, if_neg (by omega)]
      · rw [if_neg e, if_neg e]
    have e2 : unm s.num t = 1 := if_pos hn
    have := H.cn
    dsimp only
    rw [e, sm_up ht, e2]; omega
  · have := H.dn v hv ho
    show 0 < (s.num.set t (s.cnt + 1)).getD v 0
    rw [getD_set h1]
    split
    · omega
    · exact this
end
end
section
open Go Pl
/-- By at least one move, through positions up to a priority. -/
def Rch1 (g : Gm) (top : Int) (v w : Nat) : Prop := ∃ t, Ed (rws g.nxt) (okP g.pri top) v t ∧ Rch (Ed (rws g.nxt) (okP g.pri top)) t w
end
section
open Go Pl
def RchA (x : List (List Int)) : Nat → Nat → Prop := Rch fun a b => b ∈ rws x a
theorem RchA.cons {x : List (List Int)} {a b c : Nat} (h : b ∈ rws x a) (h2 : RchA x b c) : RchA x a c := Rch.trans (Rch.one h) h2
/-- A position that comes again by a way whose greatest priority is its own and the player's. -/
def again (g : Gm) (pl : Int) (v : Nat) : Prop := g.pri.getD v 0 % 2 = pl ∧ Rch1 g (g.pri.getD v 0) v v
/-- From where a player who chooses alone wins. -/
def alone (g : Gm) (pl : Int) (v : Nat) : Prop := ∃ w, w < g.own.length ∧ again g pl w ∧ RchA g.nxt v w
open Classical in
noncomputable def aloneL (g : Gm) (pl : Int) : List Bool := (List.range g.own.length).map fun v => decide (alone g pl v)
theorem aloneL_getD {g : Gm} {pl : Int} {v : Nat} (hv : v < g.own.length) : (aloneL g pl).getD v false = true ↔ alone g pl v := by
  simp [aloneL, List.getD_eq_getElem?_getD, hv]
end
end Go.Proofs.Ytlckljphakkomaa.Cal
namespace Go.Proofs.Ytlckljphakkomaa.Cal
section
open Pl
/-- The steps that end at a priority of at most w's. -/
def Low (E : Nat → Nat → Prop) (pri : Nat → Int) (w a b : Nat) : Prop := E a b ∧ pri b ≤ pri w
/-- A cycle through w on which no priority is greater than w's. -/
def Cyc (E : Nat → Nat → Prop) (pri : Nat → Int) (w : Nat) : Prop := ∃ t, Low E pri w w t ∧ Rch (Low E pri w) t w
theorem Rch.cons {E : Nat → Nat → Prop} {a b c : Nat} (h : E a b) (h2 : Rch E b c) : Rch E a c := Rch.trans (Rch.one h) h2
theorem Rch.uncons {E : Nat → Nat → Prop} {a b : Nat} (h : Rch E a b) : a = b ∨ ∃ t, E a t ∧ Rch E t b := by
  induction h with
  | refl => exact .inl rfl
  | step h e ih =>
    rcases ih with rfl | ⟨t, h1, h2⟩
    · exact .inr ⟨_, e, .refl _⟩
    · exact .inr ⟨t, h1, .step h2 e⟩
/-- The positions of a cycle. -/
def OnC (E : Nat → Nat → Prop) (pri : Nat → Int) (w t z : Nat) : Prop := Rch (Low E pri w) t z ∧ Rch (Low E pri w) z w
theorem on_next {E : Nat → Nat → Prop} {pri : Nat → Int} {w t z : Nat} (ht : Low E pri w w t) (htw : Rch (Low E pri w) t w) (h : OnC E pri w t z) : ∃ s, E z s ∧ OnC E pri w t s := by
  rcases h.2.uncons with rfl | ⟨s, h1, h2⟩
  · exact ⟨t, ht.1, .refl _, htw⟩
  · exact ⟨s, h1.1, .step h.1 h1, h2⟩
theorem on_low {E : Nat → Nat → Prop} {pri : Nat → Int} {w t z : Nat} (ht : Low E pri w w t) (h : OnC E pri w t z) : pri z ≤ pri w := by
  cases h.1 with
  | refl => exact ht.2
  | step _ e => exact e.2
/-- Where every position of the cycle has a step to a lower rank unless it is out of A, none is in A. -/
theorem on_rank {E : Nat → Nat → Prop} {pri : Nat → Int} {w t : Nat} (ht : Low E pri w w t) (htw : Rch (Low E pri w) t w) {A : Nat → Prop} {r : Nat → Nat} (hA : ∀ z s, OnC E pri w t z → A z → E z s → A s ∧ r s < r z) : ∀ z, OnC E pri w t z → ¬ A z := by
  intro z
  generalize hk : r z = k
  induction k using Nat.strongRecOn generalizing z with
  | ind k ih =>
    intro hz ha
    obtain ⟨s, h1, h2⟩ := on_next ht htw hz
    obtain ⟨h3, h4⟩ := hA z s hz ha h1
    exact ih (r s) (by omega) s rfl h2 h3
/-- A cycle whose steps are steps of another graph. -/
theorem cyc_to {E E' : Nat → Nat → Prop} {pri : Nat → Int} {w t : Nat} (ht : Low E pri w w t) (htw : Rch (Low E pri w) t w) (h : ∀ a b, OnC E pri w t a → OnC E pri w t b → E a b → E' a b) : Cyc E' pri w := by
  have hw : OnC E pri w t w := ⟨htw, .refl _⟩
  refine ⟨t, ⟨h w t hw ⟨.refl _, htw⟩ ht.1, ht.2⟩, ?_⟩
  have key : ∀ c, Rch (Low E pri w) t c → Rch (Low E pri w) c w → Rch (Low E' pri w) t c := by
    intro c hc
    induction hc with
    | refl => intro _; exact .refl _
    | step h1 e ih =>
      intro h2
      have h3 := Rch.cons e h2
      exact .step (ih h3) ⟨h _ _ ⟨h1, h3⟩ ⟨.step h1 e, h2⟩ e.1, e.2⟩
  exact key w htw (.refl _)
variable (own pri : Nat → Int) (sx : Nat → List Nat)
/-- The steps in the positions W of K that p plays by c. -/
def Stp (K : Nat → Prop) (W : Nat → Int) (c : Nat → Nat) (p : Int) (v t : Nat) : Prop := (K v ∧ W v = p) ∧ K t ∧ (own v = p → t = c v) ∧ (own v ≠ p → t ∈ sx v)
/-- p wins its positions of K by c. -/
structure Sol (K : Nat → Prop) (W : Nat → Int) (c : Nat → Nat) (p : Int) : Prop where
  mine : ∀ v, K v → W v = p → own v = p → c v ∈ sx v ∧ K (c v) ∧ W (c v) = p
  his : ∀ v, K v → W v = p → own v ≠ p → ∀ t, t ∈ sx v → K t → W t = p
  cyc : ∀ w, K w → W w = p → pri w % 2 ≠ p → ¬ Cyc (Stp own sx K W c p) pri w
/-- Each position of K has a successor there. -/
def Trap (K : Nat → Prop) : Prop := ∀ v, K v → ∃ t, t ∈ sx v ∧ K t
/-- A is T and what q attracts to it in K, by c. -/
structure Atr (K A T : Nat → Prop) (q : Int) (c : Nat → Nat) (r : Nat → Nat) : Prop where
  sub : ∀ v, A v → K v
  base : ∀ v, T v → A v
  mine : ∀ v, A v → ¬ T v → own v = q → c v ∈ sx v ∧ A (c v) ∧ r (c v) < r v
  his : ∀ v, A v → ¬ T v → own v ≠ q → ∀ t, t ∈ sx v → K t → A t ∧ r t < r v
  outm : ∀ v, K v → ¬ A v → own v = q → ∀ t, t ∈ sx v → K t → ¬ A t
  outh : ∀ v, K v → ¬ A v → own v ≠ q → ∃ t, t ∈ sx v ∧ K t ∧ ¬ A t
variable {own pri sx}
variable {K A T R : Nat → Prop} {W W' : Nat → Int} {c c' : Nat → Nat} {r : Nat → Nat} {p q : Int}
theorem Stp.of (h : Sol own pri sx K W c p) {v t : Nat} (e : Stp own sx K W c p v t) : W t = p := by
  obtain ⟨⟨h1, h2⟩, h3, h4, h5⟩ := e
  by_cases ho : own v = p
  · rw [h4 ho]; exact (h.mine v h1 h2 ho).2.2
  · exact h.his v h1 h2 ho t (h5 ho) h3
/-- What is left is a trap for the one who attracts. -/
theorem Atr.trap (h : Atr own sx K A T q c r) (hK : Trap sx K) : Trap sx fun v => K v ∧ ¬ A v := fun v hv => by
  by_cases ho : own v = q
  · obtain ⟨t, h1, h2⟩ := hK v hv.1
    exact ⟨t, h1, h2, h.outm v hv.1 hv.2 ho t h1 h2⟩
  · obtain ⟨t, h1, h2, h3⟩ := h.outh v hv.1 hv.2 ho
    exact ⟨t, h1, h2, h3⟩
/-- Nothing below is lost: p wins everywhere. -/
theorem sol_all {top : Int} (hp : top % 2 = p) (htop : ∀ v, K v → pri v ≤ top) (hT : ∀ v, T v ↔ K v ∧ pri v = top) (hA : Atr own sx K A T p c r)
    (hU : ∀ v, T v → own v = p → c v ∈ sx v ∧ K (c v)) (hS : Sol own pri sx (fun v => K v ∧ ¬ A v) W' c p) (hW' : ∀ v, K v → ¬ A v → W' v = p) (hW : ∀ v, K v → W v = p) :
    Sol own pri sx K W c p ∧ ∀ q, q ≠ p → Sol own pri sx K W c q := by
  refine ⟨⟨fun v hv _ ho => ?_, fun v hv _ ho t ht hk => hW t hk, fun w hw _ hpar => ?_⟩, fun q hq => ⟨fun v hv h => absurd ((hW v hv).symm.trans h).symm hq, fun v hv h => absurd ((hW v hv).symm.trans h).symm hq, fun v hv h => absurd ((hW v hv).symm.trans h).symm hq⟩⟩
  · by_cases hat : A v
    · by_cases htt : T v
      · obtain ⟨h1, h2⟩ := hU v htt ho
        exact ⟨h1, h2, hW _ h2⟩
      · obtain ⟨h1, h2, _⟩ := hA.mine v hat htt ho
        exact ⟨h1, hA.sub _ h2, hW _ (hA.sub _ h2)⟩
    · obtain ⟨h1, h2, h3⟩ := hS.mine v ⟨hv, hat⟩ (hW' v hv hat) ho
      exact ⟨h1, h2.1, hW _ h2.1⟩
  · rintro ⟨t, ht, htw⟩
    have hwt : ¬ T w := fun h => hpar (by rw [((hT w).1 h).2]; exact hp)
    have hlt : pri w < top := by
      have h1 := htop w hw
      rcases Int.lt_or_eq_of_le h1 with h2 | h2
      · exact h2
      · exact absurd ((hT w).2 ⟨hw, h2⟩) hwt
    have hnt : ∀ z, OnC (Stp own sx K W c p) pri w t z → ¬ T z := fun z hz h => by
      have h1 := on_low ht hz
      have h2 := ((hT z).1 h).2
      omega
    have hna := on_rank ht htw (A := A) (r := r) fun z s hz ha e => by
      obtain ⟨⟨e1, e2⟩, e3, e4, e5⟩ := e
      by_cases ho : own z = p
      · rw [e4 ho]; exact (hA.mine z ha (hnt z hz) ho).2
      · exact hA.his z ha (hnt z hz) ho s (e5 ho) e3
    have hKz : ∀ z, OnC (Stp own sx K W c p) pri w t z → K z := fun z hz => by
      obtain ⟨s, h1, _⟩ := on_next ht htw hz
      exact h1.1.1
    have hww : OnC (Stp own sx K W c p) pri w t w := ⟨htw, .refl _⟩
    refine hS.cyc w ⟨hw, hna w hww⟩ (hW' w hw (hna w hww)) hpar (cyc_to ht htw fun a b h1 h2 e => ?_)
    obtain ⟨⟨e1, e2⟩, e3, e4, e5⟩ := e
    exact ⟨⟨⟨e1, hna a h1⟩, hW' a e1 (hna a h1)⟩, ⟨e3, hna b h2⟩, e4, e5⟩
theorem Sol.congr {c c' : Nat → Nat} (h : Sol own pri sx K W c' p) (hc : ∀ v, K v → W v = p → own v = p → c v = c' v) : Sol own pri sx K W c p := by
  refine ⟨fun v h1 h2 h3 => by rw [hc v h1 h2 h3]; exact h.mine v h1 h2 h3, h.his, fun w h1 h2 h3 => ?_⟩
  rintro ⟨t, ht, htw⟩
  refine h.cyc w h1 h2 h3 (cyc_to ht htw fun a b _ _ e => ?_)
  obtain ⟨⟨e1, e2⟩, e3, e4, e5⟩ := e
  exact ⟨⟨e1, e2⟩, e3, fun ho => by rw [e4 ho, hc a e1 e2 ho], e5⟩
variable {B : Nat → Prop} {W2 : Nat → Int} {cA : Nat → Nat} {rA rB : Nat → Nat}
/-- Some are lost below: those and what is attracted to them, and the rest. -/
theorem sol_part (hpq : p ≠ q) (hown : ∀ v, K v → own v = p ∨ own v = q) (hA : Atr own sx K A T p cA rA) (hS : Sol own pri sx (fun v => K v ∧ ¬ A v) W' c q)
    (hB : Atr own sx K B (fun v => (K v ∧ ¬ A v) ∧ W' v = q) q c rB) (h2p : Sol own pri sx (fun v => K v ∧ ¬ B v) W2 c p) (h2q : Sol own pri sx (fun v => K v ∧ ¬ B v) W2 c q)
    (hWB : ∀ v, B v → W v = q) (hW2 : ∀ v, K v → ¬ B v → W v = W2 v) : Sol own pri sx K W c p ∧ Sol own pri sx K W c q := by
  have hnb : ∀ v, K v → W v = p → ¬ B v := fun v hv h hb => hpq (h.symm.trans (hWB v hb))
  refine ⟨⟨fun v hv h ho => ?_, fun v hv h ho t ht hk => ?_, fun w hw h hpar => ?_⟩, ⟨fun v hv h ho => ?_, fun v hv h ho t ht hk => ?_, fun w hw h hpar => ?_⟩⟩
  · have hb := hnb v hv h
    obtain ⟨h1, h2, h3⟩ := h2p.mine v ⟨hv, hb⟩ ((hW2 v hv hb).symm.trans h) ho
    exact ⟨h1, h2.1, (hW2 _ h2.1 h2.2).trans h3⟩
  · have hb := hnb v hv h
    have hoq : own v = q := (hown v hv).resolve_left ho
    have hbt := hB.outm v hv hb hoq t ht hk
    exact (hW2 t hk hbt).trans (h2p.his v ⟨hv, hb⟩ ((hW2 v hv hb).symm.trans h) ho t ht ⟨hk, hbt⟩)
  · rintro ⟨t, ht, htw⟩
    have hb := hnb w hw h
    refine h2p.cyc w ⟨hw, hb⟩ ((hW2 w hw hb).symm.trans h) hpar (cyc_to ht htw fun a b h1 h2 e => ?_)
    obtain ⟨⟨e1, e2⟩, e3, e4, e5⟩ := e
    have hba := hnb a e1 e2
    have hbb : ¬ B b := by
      obtain ⟨s, hs, _⟩ := on_next ht htw h2
      exact hnb b hs.1.1 hs.1.2
    exact ⟨⟨⟨e1, hba⟩, (hW2 a e1 hba).symm.trans e2⟩, ⟨e3, hbb⟩, e4, e5⟩
  · by_cases hb : B v
    · by_cases hl : (K v ∧ ¬ A v) ∧ W' v = q
      · obtain ⟨h1, h2, h3⟩ := hS.mine v hl.1 hl.2 ho
        exact ⟨h1, h2.1, hWB _ (hB.base _ ⟨h2, h3⟩)⟩
      · obtain ⟨h1, h2, _⟩ := hB.mine v hb hl ho
        exact ⟨h1, hB.sub _ h2, hWB _ h2⟩
    · obtain ⟨h1, h2, h3⟩ := h2q.mine v ⟨hv, hb⟩ ((hW2 v hv hb).symm.trans h) ho
      exact ⟨h1, h2.1, (hW2 _ h2.1 h2.2).trans h3⟩
  · have hop : own v = p := (hown v hv).resolve_right ho
    by_cases hb : B v
    · by_cases hl : (K v ∧ ¬ A v) ∧ W' v = q
      · have hat := hA.outm v hv hl.1.2 hop t ht hk
        exact hWB _ (hB.base _ ⟨⟨hk, hat⟩, hS.his v hl.1 hl.2 ho t ht ⟨hk, hat⟩⟩)
      · exact hWB _ (hB.his v hb hl ho t ht hk).1
    · by_cases hbt : B t
      · exact hWB _ hbt
      · exact (hW2 t hk hbt).trans (h2q.his v ⟨hv, hb⟩ ((hW2 v hv hb).symm.trans h) ho t ht ⟨hk, hbt⟩)
  · rintro ⟨t, ht, htw⟩
    have hww : OnC (Stp own sx K W c q) pri w t w := ⟨htw, .refl _⟩
    have hcl : ∀ a b, ((K a ∧ ¬ A a) ∧ W' a = q) → Stp own sx K W c q a b → ((K b ∧ ¬ A b) ∧ W' b = q) := fun a b ha e => by
      obtain ⟨⟨e1, e2⟩, e3, e4, e5⟩ := e
      by_cases ho : own a = q
      · rw [e4 ho]
        obtain ⟨h1, h2, h3⟩ := hS.mine a ha.1 ha.2 ho
        exact ⟨h2, h3⟩
      · have hop : own a = p := (hown a e1).resolve_right ho
        have hat := hA.outm a e1 ha.1.2 hop b (e5 ho) e3
        exact ⟨⟨e3, hat⟩, hS.his a ha.1 ha.2 ho b (e5 ho) ⟨e3, hat⟩⟩
    by_cases hex : ∃ z, OnC (Stp own sx K W c q) pri w t z ∧ ((K z ∧ ¬ A z) ∧ W' z = q)
    · obtain ⟨z, hz, hl⟩ := hex
      have hlw := Rch.closed (C := fun v => (K v ∧ ¬ A v) ∧ W' v = q) (fun a b h1 h2 => hcl a b h1 h2.1) hz.2 hl
      have hla : ∀ a, OnC (Stp own sx K W c q) pri w t a → (K a ∧ ¬ A a) ∧ W' a = q := fun a ha =>
        Rch.closed (C := fun v => (K v ∧ ¬ A v) ∧ W' v = q) (fun a b h1 h2 => hcl a b h1 h2.1) (Rch.cons ht ha.1) hlw
      refine hS.cyc w hlw.1 hlw.2 hpar (cyc_to ht htw fun a b h1 h2 e => ?_)
      obtain ⟨⟨e1, e2⟩, e3, e4, e5⟩ := e
      exact ⟨hla a h1, (hla b h2).1, e4, e5⟩
    · have hno : ∀ z, OnC (Stp own sx K W c q) pri w t z → ¬ ((K z ∧ ¬ A z) ∧ W' z = q) := fun z hz hl => hex ⟨z, hz, hl⟩
      have hnB := on_rank ht htw (A := B) (r := rB) fun z s hz ha e => by
        obtain ⟨⟨e1, e2⟩, e3, e4, e5⟩ := e
        by_cases ho : own z = q
        · rw [e4 ho]; exact (hB.mine z ha (hno z hz) ho).2
        · exact hB.his z ha (hno z hz) ho s (e5 ho) e3
      have hbw := hnB w hww
      refine h2q.cyc w ⟨hw, hbw⟩ ((hW2 w hw hbw).symm.trans h) hpar (cyc_to ht htw fun a b h1 h2 e => ?_)
      obtain ⟨⟨e1, e2⟩, e3, e4, e5⟩ := e
      have hba := hnB a h1
      exact ⟨⟨⟨e1, hba⟩, (hW2 a e1 hba).symm.trans e2⟩, ⟨e3, hnB b h2⟩, e4, e5⟩
/-! ### What is attracted -/
def lay (own : Nat → Int) (sx : Nat → List Nat) (K T : Nat → Prop) (q : Int) : Nat → Nat → Prop
  | 0, v => T v
  | k + 1, v => lay own sx K T q k v ∨ (K v ∧ own v = q ∧ ∃ t, t ∈ sx v ∧ K t ∧ lay own sx K T q k t) ∨ (K v ∧ own v ≠ q ∧ ∀ t, t ∈ sx v → K t → lay own sx K T q k t)
def Att (own : Nat → Int) (sx : Nat → List Nat) (K T : Nat → Prop) (q : Int) (v : Nat) : Prop := ∃ k, lay own sx K T q k v
theorem lay_le {k j v : Nat} (h : lay own sx K T q k v) : lay own sx K T q (k + j) v := by
  induction j with
  | zero => exact h
  | succ j ih => exact .inl ih
theorem lay_all {v : Nat} : ∀ {l : List Nat}, (∀ t, t ∈ l → K t → Att own sx K T q t) → ∃ k, ∀ t, t ∈ l → K t → lay own sx K T q k t
  | [], _ => ⟨0, fun t ht => absurd ht List.not_mem_nil⟩
  | a :: l, h => by
    obtain ⟨k, hk⟩ := lay_all (v := v) (l := l) fun t ht => h t (List.mem_cons_of_mem _ ht)
    by_cases ha : K a
    · obtain ⟨j, hj⟩ := h a List.mem_cons_self ha
      refine ⟨k + j, fun t ht hkt => ?_⟩
      rcases List.mem_cons.1 ht with rfl | ht
      · rw [Nat.add_comm]; exact lay_le hj
      · exact lay_le (hk t ht hkt)
    · refine ⟨k, fun t ht hkt => ?_⟩
      rcases List.mem_cons.1 ht with rfl | ht
      · exact absurd hkt ha
      · exact hk t ht hkt
theorem least_lay {v : Nat} (h : Att own sx K T q v) : ∃ k, lay own sx K T q k v ∧ ∀ j, j < k → ¬ lay own sx K T q j v := by
  obtain ⟨k, hk⟩ := h
  induction k using Nat.strongRecOn with
  | ind k ih =>
    by_cases h : ∃ j, j < k ∧ lay own sx K T q j v
    · obtain ⟨j, h1, h2⟩ := h; exact ih j h1 h2
    · exact ⟨k, hk, fun j hj hl => h ⟨j, hj, hl⟩⟩
open Classical in
noncomputable def layR (own : Nat → Int) (sx : Nat → List Nat) (K T : Nat → Prop) (q : Int) (v : Nat) : Nat := if h : Att own sx K T q v then Classical.choose (least_lay h) else 0
theorem layR_is {v : Nat} (h : Att own sx K T q v) : lay own sx K T q (layR own sx K T q v) v ∧ ∀ j, j < layR own sx K T q v → ¬ lay own sx K T q j v := by
  unfold layR; rw [dif_pos h]; exact Classical.choose_spec (least_lay h)
theorem layR_le {v k : Nat} (h : lay own sx K T q k v) : layR own sx K T q v ≤ k := Nat.not_lt.1 fun hlt => (layR_is ⟨k, h⟩).2 k hlt h
theorem lay_sub (hT : ∀ v, T v → K v) {k v : Nat} (h : lay own sx K T q k v) : K v := by
  induction k with
  | zero => exact hT v h
  | succ k ih => rcases h with h | h | h <;> first | exact ih h | exact h.1
/-- The attractor, with a choice. -/
theorem att_atr (hT : ∀ v, T v → K v) : ∃ c r, Atr own sx K (Att own sx K T q) T q c r := by
  have hst : ∀ v, Att own sx K T q v → ¬ T v → ∃ k, layR own sx K T q v = k + 1 ∧ ((K v ∧ own v = q ∧ ∃ t, t ∈ sx v ∧ K t ∧ lay own sx K T q k t) ∨ (K v ∧ own v ≠ q ∧ ∀ t, t ∈ sx v → K t → lay own sx K T q k t)) := fun v hv ht => by
    obtain ⟨h1, h2⟩ := layR_is hv
    cases hk : layR own sx K T q v with
    | zero => rw [hk] at h1; exact absurd h1 ht
    | succ k =>
      rw [hk] at h1 h2
      exact ⟨k, rfl, h1.resolve_left (h2 k (by omega))⟩
  have hc : ∀ v, ∃ t, Att own sx K T q v → ¬ T v → own v = q → t ∈ sx v ∧ Att own sx K T q t ∧ layR own sx K T q t < layR own sx K T q v := fun v => by
    by_cases h : Att own sx K T q v ∧ ¬ T v ∧ own v = q
    · obtain ⟨k, hk, h2⟩ := hst v h.1 h.2.1
      rcases h2 with ⟨_, _, t, h3, _, h4⟩ | h2
      · refine ⟨t, fun _ _ _ => ⟨h3, ⟨k, h4⟩, ?_⟩⟩
        have := layR_le h4; omega
      · exact absurd h.2.2 h2.2.1
    · exact ⟨0, fun h1 h2 h3 => absurd ⟨h1, h2, h3⟩ h⟩
  refine ⟨fun v => Classical.choose (hc v), layR own sx K T q, fun v ⟨k, h⟩ => lay_sub hT h, fun v h => ⟨0, h⟩, fun v h1 h2 h3 => Classical.choose_spec (hc v) h1 h2 h3, fun v h1 h2 h3 t ht hk => ?_, fun v hv hna ho t ht hk hat => ?_, fun v hv hna ho => ?_⟩
  · obtain ⟨k, hk', h4⟩ := hst v h1 h2
    rcases h4 with h4 | h4
    · exact absurd h4.2.1 h3
    · have h5 := h4.2.2 t ht hk
      have := layR_le h5
      exact ⟨⟨k, h5⟩, by omega⟩
  · obtain ⟨k, h⟩ := hat
    exact hna ⟨k + 1, .inr (.inl ⟨hv, ho, t, ht, hk, h⟩)⟩
  · refine Classical.byContradiction fun hno => ?_
    obtain ⟨k, hk⟩ := lay_all (own := own) (sx := sx) (K := K) (T := T) (q := q) (v := v) (l := sx v) fun t ht hkt => Classical.byContradiction fun h => hno ⟨t, ht, hkt, h⟩
    exact hna ⟨k + 1, .inr (.inr ⟨hv, ho, hk⟩)⟩
/-! ### The recursion -/
def topR (pri : Nat → Int) (K : Nat → Bool) : Nat → Int
  | 0 => -1
  | i + 1 => if K i = true then max (topR pri K i) (pri i) else topR pri K i
theorem topR_ge {pri : Nat → Int} {K : Nat → Bool} {v : Nat} (hv : K v = true) : ∀ {n : Nat}, v < n → pri v ≤ topR pri K n
  | 0, h => absurd h (Nat.not_lt_zero _)
  | n + 1, h => by
    unfold topR
    by_cases e : v = n
    · subst e; rw [if_pos hv]; omega
    · have := topR_ge (pri := pri) hv (n := n) (by omega)
      split <;> omega
theorem topR_mem {pri : Nat → Int} {K : Nat → Bool} : ∀ {n : Nat}, topR pri K n = -1 ∨ ∃ v, v < n ∧ K v = true ∧ pri v = topR pri K n
  | 0 => .inl rfl
  | n + 1 => by
    unfold topR
    split
    · rename_i h
      by_cases h2 : topR pri K n ≤ pri n
      · exact .inr ⟨n, by omega, h, by omega⟩
      · rcases topR_mem (pri := pri) (K := K) (n := n) with e | ⟨v, h3, h4, h5⟩
        · exact .inl (by omega)
        · exact .inr ⟨v, by omega, h4, by omega⟩
    · rcases topR_mem (pri := pri) (K := K) (n := n) with e | ⟨v, h3, h4, h5⟩
      · exact .inl e
      · exact .inr ⟨v, by omega, h4, h5⟩
open Classical in
/-- What is attracted, to be computed. -/
noncomputable def attB (own : Nat → Int) (sx : Nat → List Nat) (K T : Nat → Bool) (q : Int) (v : Nat) : Bool := decide (Att own sx (fun v => K v = true) (fun v => T v = true) q v)
theorem attB_iff {K T : Nat → Bool} {v : Nat} : attB own sx K T q v = true ↔ Att own sx (fun v => K v = true) (fun v => T v = true) q v := by simp [attB]
/-- Those of the greatest priority. -/
def topS (pri : Nat → Int) (K : Nat → Bool) (n v : Nat) : Bool := K v && decide (pri v = topR pri K n)
/-- What is not near those. -/
noncomputable def restS (own pri : Nat → Int) (sx : Nat → List Nat) (n : Nat) (K : Nat → Bool) (v : Nat) : Bool := K v && !attB own sx K (topS pri K n) (topR pri K n % 2) v
/-- The winners in K. -/
noncomputable def winZ (own pri : Nat → Int) (sx : Nat → List Nat) (n : Nat) : Nat → (Nat → Bool) → Nat → Int
  | 0, _, _ => 0
  | k + 1, K, v =>
    if topR pri K n < 0 then 0
    else if ∀ u, u < n → restS own pri sx n K u = true → winZ own pri sx n k (restS own pri sx n K) u = topR pri K n % 2 then topR pri K n % 2
    else if attB own sx K (fun u => restS own pri sx n K u && decide (winZ own pri sx n k (restS own pri sx n K) u ≠ topR pri K n % 2)) (1 - topR pri K n % 2) v = true then 1 - topR pri K n % 2
    else winZ own pri sx n k (fun u => K u && !attB own sx K (fun u => restS own pri sx n K u && decide (winZ own pri sx n k (restS own pri sx n K) u ≠ topR pri K n % 2)) (1 - topR pri K n % 2) u) v
def cntZ (n : Nat) (K : Nat → Bool) : Nat := (List.range n).countP K
theorem cnt_lt {n : Nat} {K K' : Nat → Bool} {v : Nat} (h : ∀ u, K' u = true → K u = true) (hv : v < n) (h1 : K v = true) (h2 : K' v = false) : cntZ n K' < cntZ n K := by
  unfold cntZ
  have hm : v ∈ List.range n := List.mem_range.2 hv
  generalize List.range n = l at hm
  induction l with
  | nil => exact absurd hm List.not_mem_nil
  | cons a l ih =>
    have hle : l.countP K' ≤ l.countP K := List.countP_mono_left fun x _ hx => h x hx
    rw [List.countP_cons, List.countP_cons]
    rcases List.mem_cons.1 hm with rfl | hm
    · rw [h1, h2]; simp; omega
    · have := ih hm
      have h3 : K' a = true → K a = true := h a
      cases e : K' a with
      | true => rw [h3 e]; simp; omega
      | false => cases K a <;> simp <;> omega
theorem cnt_pos {n : Nat} {K : Nat → Bool} {v : Nat} (hv : v < n) (h1 : K v = true) : 0 < cntZ n K := List.countP_pos_iff.2 ⟨v, List.mem_range.2 hv, h1⟩
theorem Atr.congr (h : Atr own sx K A T q c' r) (hc : ∀ v, A v → ¬ T v → own v = q → c v = c' v) : Atr own sx K A T q c r :=
  ⟨h.sub, h.base, fun v h1 h2 h3 => by rw [hc v h1 h2 h3]; exact h.mine v h1 h2 h3, h.his, h.outm, h.outh⟩
theorem Atr.congrT {T' : Nat → Prop} (h : Atr own sx K A T q c r) (hT : ∀ v, T v ↔ T' v) : Atr own sx K A T' q c r :=
  ⟨h.sub, fun v h1 => h.base v ((hT v).2 h1), fun v h1 h2 => h.mine v h1 fun h3 => h2 ((hT v).1 h3), fun v h1 h2 => h.his v h1 fun h3 => h2 ((hT v).1 h3), h.outm, h.outh⟩
theorem Sol.none (h : ∀ v, ¬ K v) : Sol own pri sx K W c p := ⟨fun v hv => absurd hv (h v), fun v hv => absurd hv (h v), fun v hv => absurd hv (h v)⟩
theorem Sol.congrW (h : Sol own pri sx K W' c p) (hW : ∀ v, K v → W v = W' v) : Sol own pri sx K W c p := by
  refine ⟨fun v h1 h2 h3 => ?_, fun v h1 h2 h3 t ht hk => ?_, fun w h1 h2 h3 => ?_⟩
  · obtain ⟨a, b, d⟩ := h.mine v h1 ((hW v h1).symm.trans h2) h3
    exact ⟨a, b, (hW _ b).trans d⟩
  · exact (hW t hk).trans (h.his v h1 ((hW v h1).symm.trans h2) h3 t ht hk)
  · rintro ⟨t, ht, htw⟩
    refine h.cyc w h1 ((hW w h1).symm.trans h2) h3 (cyc_to ht htw fun a b _ _ e => ?_)
    obtain ⟨⟨e1, e2⟩, e3, e4, e5⟩ := e
    exact ⟨⟨e1, (hW a e1).symm.trans e2⟩, e3, e4, e5⟩
theorem mod2 (x : Int) : x % 2 = 0 ∨ x % 2 = 1 := by omega
open Classical in
theorem zsol {n : Nat} (hown : ∀ v, v < n → own v = 0 ∨ own v = 1) (hpri : ∀ v, v < n → 0 ≤ pri v) : ∀ (k : Nat) (K : Nat → Bool), (∀ v, K v = true → v < n) → cntZ n K ≤ k → Trap sx (fun v => K v = true) →
    (∀ v, K v = true → winZ own pri sx n k K v = 0 ∨ winZ own pri sx n k K v = 1) ∧ ∃ c, Sol own pri sx (fun v => K v = true) (winZ own pri sx n k K) c 0 ∧ Sol own pri sx (fun v => K v = true) (winZ own pri sx n k K) c 1 := by
  intro k
  induction k with
  | zero =>
    intro K hn hc _
    have hno : ∀ v, ¬ K v = true := fun v hv => by have := cnt_pos (hn v hv) hv; omega
    exact ⟨fun v hv => absurd hv (hno v), fun _ => 0, Sol.none hno, Sol.none hno⟩
  | succ k ih =>
    intro K hn hc hK
    by_cases ht : topR pri K n < 0
    · have hno : ∀ v, ¬ K v = true := fun v hv => by
        have h1 := topR_ge (pri := pri) hv (hn v hv)
        have h2 := hpri v (hn v hv)
        omega
      exact ⟨fun v hv => absurd hv (hno v), fun _ => 0, Sol.none hno, Sol.none hno⟩
    obtain ⟨v0, hv0, hk0, hp0⟩ : ∃ v, v < n ∧ K v = true ∧ pri v = topR pri K n := topR_mem.resolve_left (by omega)
    have hunf : winZ own pri sx n (k + 1) K = fun v => if ∀ u, u < n → restS own pri sx n K u = true → winZ own pri sx n k (restS own pri sx n K) u = topR pri K n % 2 then topR pri K n % 2
        else if attB own sx K (fun u => restS own pri sx n K u && decide (winZ own pri sx n k (restS own pri sx n K) u ≠ topR pri K n % 2)) (1 - topR pri K n % 2) v = true then 1 - topR pri K n % 2
        else winZ own pri sx n k (fun u => K u && !attB own sx K (fun u => restS own pri sx n K u && decide (winZ own pri sx n k (restS own pri sx n K) u ≠ topR pri K n % 2)) (1 - topR pri K n % 2) u) v := by
      funext v
      rw [winZ, if_neg ht]
    rw [hunf]
    clear hunf
    have hTi : ∀ v, topS pri K n v = true ↔ K v = true ∧ pri v = topR pri K n := fun v => by simp [topS]
    have htop : ∀ v, K v = true → pri v ≤ topR pri K n := fun v hv => topR_ge hv (hn v hv)
    obtain ⟨cA, rA, hA⟩ := att_atr (own := own) (sx := sx) (K := fun v => K v = true) (T := fun v => topS pri K n v = true) (q := topR pri K n % 2) fun v hv => ((hTi v).1 hv).1
    have hRi : ∀ v, restS own pri sx n K v = true ↔ K v = true ∧ ¬ Att own sx (fun v => K v = true) (fun v => topS pri K n v = true) (topR pri K n % 2) v := fun v => by
      unfold restS
      rw [Bool.and_eq_true, Bool.not_eq_true', ← attB_iff, Bool.not_eq_true]
    have hRf : (fun v => restS own pri sx n K v = true) = fun v => K v = true ∧ ¬ Att own sx (fun v => K v = true) (fun v => topS pri K n v = true) (topR pri K n % 2) v := funext fun v => propext (hRi v)
    have hRc : cntZ n (restS own pri sx n K) ≤ k := by
      have := cnt_lt (n := n) (K := K) (K' := restS own pri sx n K) (v := v0) (fun u hu => ((hRi u).1 hu).1) hv0 hk0 (by
        rw [Bool.eq_false_iff]
        exact fun h => ((hRi v0).1 h).2 (hA.base v0 ((hTi v0).2 ⟨hk0, hp0⟩)))
      omega
    obtain ⟨hw', c', hS0, hS1⟩ := ih (restS own pri sx n K) (fun v hv => hn v ((hRi v).1 hv).1) hRc (by rw [hRf]; exact hA.trap hK)
    rw [hRf] at hS0 hS1
    have hSp : ∀ q, q = 0 ∨ q = 1 → Sol own pri sx (fun v => K v = true ∧ ¬ Att own sx (fun v => K v = true) (fun v => topS pri K n v = true) (topR pri K n % 2) v) (winZ own pri sx n k (restS own pri sx n K)) c' q := fun q hq => by rcases hq with rfl | rfl <;> assumption
    clear hS0 hS1
    have hpm := mod2 (topR pri K n)
    generalize hp : topR pri K n % 2 = p at *
    by_cases hall : ∀ u, u < n → restS own pri sx n K u = true → winZ own pri sx n k (restS own pri sx n K) u = p
    · simp only [if_pos hall]
      have hss : ∀ v, ∃ t, K v = true → t ∈ sx v ∧ K t = true := fun v => by
        by_cases h : K v = true
        · obtain ⟨t, h1, h2⟩ := hK v h; exact ⟨t, fun _ => ⟨h1, h2⟩⟩
        · exact ⟨0, fun h' => absurd h' h⟩
      refine ⟨fun _ _ => hpm, fun v => if Att own sx (fun v => K v = true) (fun v => topS pri K n v = true) p v then (if topS pri K n v = true then Classical.choose (hss v) else cA v) else c' v, ?_⟩
      have key := sol_all (own := own) (pri := pri) (sx := sx) (K := fun v => K v = true) (W := fun _ => p) hp htop hTi (hA.congr (c := fun v => if Att own sx (fun v => K v = true) (fun v => topS pri K n v = true) p v then (if topS pri K n v = true then Classical.choose (hss v) else cA v) else c' v) fun v h1 h2 _ => by rw [if_pos h1, if_neg h2])
        (fun v hv _ => by
          rw [if_pos (hA.base v hv), if_pos hv]
          exact Classical.choose_spec (hss v) ((hTi v).1 hv).1)
        ((hSp p hpm).congr fun v hv _ _ => by rw [if_neg hv.2]) (fun v h1 h2 => hall v (hn v h1) ((hRi v).2 ⟨h1, h2⟩)) fun _ _ => rfl
      rcases hpm with e | e
      · subst e; exact ⟨key.1, key.2 1 (by decide)⟩
      · subst e; exact ⟨key.2 0 (by decide), key.1⟩
    · simp only [if_neg hall]
      generalize hL : (fun u => restS own pri sx n K u && decide (winZ own pri sx n k (restS own pri sx n K) u ≠ p)) = L at *
      have hLi : ∀ v, L v = true ↔ (K v = true ∧ ¬ Att own sx (fun v => K v = true) (fun v => topS pri K n v = true) p v) ∧ winZ own pri sx n k (restS own pri sx n K) v = 1 - p := fun v => by
        rw [← hL]
        simp only [Bool.and_eq_true, hRi, decide_eq_true_eq]
        refine and_congr_right fun h => ?_
        have := hw' v ((hRi v).2 h)
        omega
      have hLf : (fun v => L v = true) = fun v => (K v = true ∧ ¬ Att own sx (fun v => K v = true) (fun v => topS pri K n v = true) p v) ∧ winZ own pri sx n k (restS own pri sx n K) v = 1 - p := funext fun v => propext (hLi v)
      obtain ⟨cB, rB, hB⟩ := att_atr (own := own) (sx := sx) (K := fun v => K v = true) (T := fun v => L v = true) (q := 1 - p) fun v hv => ((hLi v).1 hv).1.1
      obtain ⟨u0, hu0, hr0, hn0⟩ : ∃ u, u < n ∧ restS own pri sx n K u = true ∧ winZ own pri sx n k (restS own pri sx n K) u ≠ p := Classical.byContradiction fun h => hall fun u h1 h2 => Classical.byContradiction fun h3 => h ⟨u, h1, h2, h3⟩
      have hl0 : L u0 = true := by rw [← hL]; simp [hr0, hn0]
      have h2i : ∀ v, (K v && !attB own sx K L (1 - p) v) = true ↔ K v = true ∧ ¬ Att own sx (fun v => K v = true) (fun v => L v = true) (1 - p) v := fun v => by
        rw [Bool.and_eq_true, Bool.not_eq_true', ← attB_iff, Bool.not_eq_true]
      have h2f : (fun v => (K v && !attB own sx K L (1 - p) v) = true) = fun v => K v = true ∧ ¬ Att own sx (fun v => K v = true) (fun v => L v = true) (1 - p) v := funext fun v => propext (h2i v)
      have h2c : cntZ n (fun v => K v && !attB own sx K L (1 - p) v) ≤ k := by
        have := cnt_lt (n := n) (K := K) (K' := fun v => K v && !attB own sx K L (1 - p) v) (v := u0) (fun u hu => ((h2i u).1 hu).1) hu0 ((hLi u0).1 hl0).1.1 (by
          rw [Bool.eq_false_iff]
          exact fun h => ((h2i u0).1 h).2 (hB.base u0 hl0))
        omega
      obtain ⟨hw2, c2, h20, h21⟩ := ih (fun v => K v && !attB own sx K L (1 - p) v) (fun v hv => hn v ((h2i v).1 hv).1) h2c (by rw [h2f]; exact hB.trap hK)
      rw [h2f] at h20 h21
      have h2p : ∀ q, q = 0 ∨ q = 1 → Sol own pri sx (fun v => K v = true ∧ ¬ Att own sx (fun v => K v = true) (fun v => L v = true) (1 - p) v) (winZ own pri sx n k (fun v => K v && !attB own sx K L (1 - p) v)) c2 q := fun q hq => by rcases hq with rfl | rfl <;> assumption
      have hq1 : 1 - p = 0 ∨ 1 - p = 1 := by omega
      refine ⟨fun v hv => ?_, fun v => if L v = true then c' v else if Att own sx (fun v => K v = true) (fun v => L v = true) (1 - p) v then cB v else c2 v, ?_⟩
      · split
        · exact hq1
        · rename_i h
          exact hw2 v ((h2i v).2 ⟨hv, fun h' => h (attB_iff.2 h')⟩)
      have hnl : ∀ v, ¬ Att own sx (fun v => K v = true) (fun v => L v = true) (1 - p) v → ¬ L v = true := fun v h h' => h (hB.base v h')
      have hB2 := hB.congr (c := fun v => if L v = true then c' v else if Att own sx (fun v => K v = true) (fun v => L v = true) (1 - p) v then cB v else c2 v) fun v h1 h2 _ => by rw [if_neg h2, if_pos h1]
      have hS2 := (hSp (1 - p) hq1).congr (c := fun v => if L v = true then c' v else if Att own sx (fun v => K v = true) (fun v => L v = true) (1 - p) v then cB v else c2 v) fun v h1 h2 _ => by rw [if_pos ((hLi v).2 ⟨h1, h2⟩)]
      have h3 : ∀ q : Int, q = 0 ∨ q = 1 → Sol own pri sx (fun v => K v = true ∧ ¬ Att own sx (fun v => K v = true) (fun v => L v = true) (1 - p) v) (winZ own pri sx n k (fun v => K v && !attB own sx K L (1 - p) v)) (fun v => if L v = true then c' v else if Att own sx (fun v => K v = true) (fun v => L v = true) (1 - p) v then cB v else c2 v) q := fun q hq => (h2p q hq).congr fun v h1 _ _ => by rw [if_neg (hnl v h1.2), if_neg h1.2]
      have key := sol_part (own := own) (pri := pri) (sx := sx) (p := p) (q := 1 - p) (W := fun v => if attB own sx K L (1 - p) v = true then 1 - p else winZ own pri sx n k (fun u => K u && !attB own sx K L (1 - p) u) v) (by omega)
        (fun v hv => by have := hown v (hn v hv); omega) hA hS2 (hB2.congrT hLi) (h3 p hpm) (h3 (1 - p) hq1)
        (fun v hv => if_pos (attB_iff.2 hv)) (fun v hv hb => if_neg fun h => hb (attB_iff.1 h))
      rcases hpm with e | e
      · subst e; exact ⟨key.1, key.2⟩
      · subst e; exact ⟨key.2, key.1⟩
/-! ### There is one solution -/
theorem max_at {f : Nat → Int} : ∀ {L k : Nat}, k < L → ∃ m, k ≤ m ∧ m < L ∧ ∀ j, k ≤ j → j < L → f j ≤ f m
  | 0, k, h => absurd h (Nat.not_lt_zero _)
  | L + 1, k, h => by
    by_cases e : k = L
    · subst e
      exact ⟨k, Nat.le_refl _, by omega, fun j h1 h2 => by rw [show j = k by omega]; exact Int.le_refl _⟩
    · obtain ⟨m, h1, h2, h3⟩ := max_at (f := f) (L := L) (k := k) (by omega)
      by_cases h4 : f m ≤ f L
      · refine ⟨L, by omega, by omega, fun j h5 h6 => ?_⟩
        by_cases h7 : j = L
        · rw [h7]; exact Int.le_refl _
        · have := h3 j h5 (by omega); omega
      · refine ⟨m, h1, by omega, fun j h5 h6 => ?_⟩
        by_cases h7 : j = L
        · rw [h7]; omega
        · exact h3 j h5 (by omega)
/-- A map that stays in D has a cycle there: one of its steps in any graph that has these steps. -/
theorem cyc_of {F : Nat → Nat} {D : Nat → Prop} {n s : Nat} (hD : ∀ v, D v → v < n ∧ D (F v)) (hs : D s) : ∃ w, D w ∧ ∀ E : Nat → Nat → Prop, (∀ v, D v → E v (F v)) → Cyc E pri w := by
  have hor : ∀ j, D (orb F s j) := fun j => by
    induction j with
    | zero => exact hs
    | succ j ih => exact (hD _ ih).2
  obtain ⟨L, k, ⟨_, hkL, he⟩, _⟩ := again_ex (f := F) (s := s) (n := n) fun j => (hD _ (hor j)).1
  obtain ⟨m, h1, h2, h3⟩ := max_at (f := fun j => pri (orb F s j)) hkL
  refine ⟨orb F s m, hor m, fun E hE => ?_⟩
  have hle : ∀ j, k ≤ j → j ≤ L → pri (orb F s j) ≤ pri (orb F s m) := fun j h4 h5 => by
    by_cases h6 : j = L
    · rw [h6, he]; exact h3 k (Nat.le_refl _) hkL
    · exact h3 j h4 (by omega)
  have hst : ∀ a b, k ≤ a → a ≤ b → b ≤ L → Rch (Low E pri (orb F s m)) (orb F s a) (orb F s b) := fun a b ha hab hb => by
    induction b with
    | zero => rw [show a = 0 by omega]; exact .refl _
    | succ b ih =>
      by_cases h : a = b + 1
      · rw [h]; exact .refl _
      · exact .step (ih (by omega) (by omega)) ⟨hE _ (hor b), hle (b + 1) (by omega) hb⟩
  refine ⟨orb F s (m + 1), ⟨hE _ (hor m), hle (m + 1) (by omega) (by omega)⟩, ?_⟩
  have h4 := hst (m + 1) L (by omega) (by omega) (Nat.le_refl _)
  rw [he] at h4
  exact h4.trans (hst k m (Nat.le_refl _) h1 (by omega))
theorem sol_apart {n : Nat} {V : Nat → Int} {d : Nat → Nat} (hn : ∀ v, K v → v < n) (h0 : Sol own pri sx K W c 0) (h1 : Sol own pri sx K V d 1) (hown : ∀ v, K v → own v = 0 ∨ own v = 1) {v : Nat} (hv : K v) (hw : W v = 0) : V v ≠ 1 := fun hv1 => by
  obtain ⟨w, ⟨a1, a2, a3⟩, hc⟩ := cyc_of (pri := pri) (F := fun v => if own v = 0 then c v else d v) (D := fun v => K v ∧ W v = 0 ∧ V v = 1) (n := n) (s := v) (fun u hu => ⟨hn u hu.1, by
    by_cases ho : own u = 0
    · rw [if_pos ho]
      obtain ⟨b1, b2, b3⟩ := h0.mine u hu.1 hu.2.1 ho
      exact ⟨b2, b3, h1.his u hu.1 hu.2.2 (by omega) _ b1 b2⟩
    · rw [if_neg ho]
      obtain ⟨b1, b2, b3⟩ := h1.mine u hu.1 hu.2.2 ((hown u hu.1).resolve_left ho)
      exact ⟨b2, h0.his u hu.1 hu.2.1 ho _ b1 b2, b3⟩⟩) ⟨hv, hw, hv1⟩
  by_cases hp : pri w % 2 = 0
  · refine h1.cyc w a1 a3 (by omega) (hc _ fun u hu => ⟨⟨hu.1, hu.2.2⟩, ?_, fun ho => ?_, fun ho => ?_⟩)
    · by_cases ho : own u = 0
      · rw [if_pos ho]; exact (h0.mine u hu.1 hu.2.1 ho).2.1
      · rw [if_neg ho]; exact (h1.mine u hu.1 hu.2.2 ((hown u hu.1).resolve_left ho)).2.1
    · rw [if_neg (by omega)]
    · have ho : own u = 0 := (hown u hu.1).resolve_right ho
      rw [if_pos ho]; exact (h0.mine u hu.1 hu.2.1 ho).1
  · refine h0.cyc w a1 a2 hp (hc _ fun u hu => ⟨⟨hu.1, hu.2.1⟩, ?_, fun ho => ?_, fun ho => ?_⟩)
    · by_cases ho : own u = 0
      · rw [if_pos ho]; exact (h0.mine u hu.1 hu.2.1 ho).2.1
      · rw [if_neg ho]; exact (h1.mine u hu.1 hu.2.2 ((hown u hu.1).resolve_left ho)).2.1
    · rw [if_pos ho]
    · rw [if_neg ho]; exact (h1.mine u hu.1 hu.2.2 ((hown u hu.1).resolve_left ho)).1
end
end Go.Proofs.Ytlckljphakkomaa.Cal
namespace Go.Proofs.Ytlckljphakkomaa.Cal
open Go Pl
noncomputable def winG (g : Gm) (k : Nat) (K : Nat → Bool) : Nat → Int := winZ (fun v => g.own.getD v 0) (fun v => g.pri.getD v 0) (rws g.nxt) g.own.length k K
noncomputable def winL (g : Gm) (k : Nat) (K : Nat → Bool) : List Int := (List.range g.own.length).map (winG g k K)
theorem winL_len {g : Gm} {k : Nat} {K : Nat → Bool} : (winL g k K).length = g.own.length := by simp [winL]
theorem winL_getD {g : Gm} {k : Nat} {K : Nat → Bool} {v : Nat} (hv : v < g.own.length) : (winL g k K).getD v 0 = winG g k K v := by
  simp [winL, List.getD_eq_getElem?_getD, hv]
end Go.Proofs.Ytlckljphakkomaa.Cal
namespace Go.Proofs.Ytlckljphakkomaa.Cal
open Go Pl
/-- What Wins answers. -/
noncomputable def winA (g : Gm) : List Int := winL g (g.own.length + 1) fun v => decide (v < g.own.length)
end Go.Proofs.Ytlckljphakkomaa.Cal
namespace Go.Proofs.Ytlckljphakkomaa.Cal
section
open Go Pl
structure GOk (g : Gm) : Prop where
  pl : g.pri.length = g.own.length
  xl : g.nxt.length = g.own.length
  n : g.own.length ≤ 20000
  own : ∀ v, v < g.own.length → g.own.getD v 0 = 0 ∨ g.own.getD v 0 = 1
  pri : ∀ v, v < g.own.length → 0 ≤ g.pri.getD v 0 ∧ g.pri.getD v 0 ≤ 60
  row : ∀ v, v < g.own.length → ∀ t, t ∈ rws g.nxt v → t < g.own.length
  len : ∀ v, v < g.own.length → 0 < (g.nxt.getD v []).length ∧ (g.nxt.getD v []).length ≤ 64
  at' : ∀ v, v < g.own.length → ∀ j, j < (g.nxt.getD v []).length → 0 ≤ (g.nxt.getD v []).getD j 0 ∧ (g.nxt.getD v []).getD j 0 < g.own.length
theorem gok {g : Gm} (h : Valid g) : GOk g := by
  obtain ⟨hn, hpl, hxl, hpos⟩ := h
  have hr : ∀ v, v < g.own.length → ∀ j, j < (g.nxt.getD v []).length → 0 ≤ (g.nxt.getD v []).getD j 0 ∧ (g.nxt.getD v []).getD j 0 < g.own.length := fun v hv j hj => by
    obtain ⟨_, hr⟩ := hpos v hv
    exact ⟨(hr j hj).1, (hr j hj).2.1⟩
  refine ⟨hpl, hxl, hn, fun v hv => ?_, fun v hv => ?_, fun v hv t ht => ?_, fun v hv => ?_, hr⟩
  · obtain ⟨⟨a1, a2, a3, a4, a5, a6⟩, _⟩ := hpos v hv
    simp only [Gm.o] at a1 a2
    omega
  · obtain ⟨⟨a1, a2, a3, a4, a5, a6⟩, _⟩ := hpos v hv
    exact ⟨a3, a4⟩
  · obtain ⟨s, h1, rfl⟩ := List.mem_map.1 ht
    obtain ⟨j, hj, rfl⟩ := List.getElem_of_mem h1
    have := hr v hv j hj
    rw [List.getD_eq_getElem?_getD, List.getElem?_eq_getElem hj, Option.getD_some] at this
    omega
  · obtain ⟨⟨a1, a2, a3, a4, a5, a6⟩, _⟩ := hpos v hv
    exact ⟨a5, a6⟩
/-- The winners by the reference are those of a solution. -/
theorem win_sol {g : Gm} (hV : Valid g) : (∀ v, v < g.own.length → (winA g).getD v 0 = 0 ∨ (winA g).getD v 0 = 1) ∧ ∃ c, Sol (fun v => g.own.getD v 0) (fun v => g.pri.getD v 0) (rws g.nxt) (fun v => v < g.own.length) (fun v => (winA g).getD v 0) c 0 ∧ Sol (fun v => g.own.getD v 0) (fun v => g.pri.getD v 0) (rws g.nxt) (fun v => v < g.own.length) (fun v => (winA g).getD v 0) c 1 := by
  have hG := gok hV
  have hK : (fun v => (decide (v < g.own.length)) = true) = fun v => v < g.own.length := funext fun v => by simp
  have hc : cntZ g.own.length (fun v => decide (v < g.own.length)) ≤ g.own.length + 1 := by
    have : cntZ g.own.length (fun v => decide (v < g.own.length)) ≤ (List.range g.own.length).length := List.countP_le_length
    rw [List.length_range] at this; omega
  obtain ⟨h1, c, h2, h3⟩ := zsol (own := fun v => g.own.getD v 0) (pri := fun v => g.pri.getD v 0) (sx := rws g.nxt) (n := g.own.length) hG.own (fun v hv => (hG.pri v hv).1) (g.own.length + 1) (fun v => decide (v < g.own.length)) (fun v hv => of_decide_eq_true hv) hc (by
    rw [hK]
    intro v hv
    have h0 := (hG.len v hv).1
    have hm : (rws g.nxt v)[0]'(by rw [rws_len]; exact h0) ∈ rws g.nxt v := List.getElem_mem _
    exact ⟨_, hm, hG.row v hv _ hm⟩)
  rw [hK] at h2 h3
  have hW : ∀ v, v < g.own.length → (winA g).getD v 0 = winG g (g.own.length + 1) (fun v => decide (v < g.own.length)) v := fun v hv => winL_getD hv
  refine ⟨fun v hv => ?_, c, Sol.congrW h2 hW, Sol.congrW h3 hW⟩
  rw [hW v hv]
  exact h1 v (decide_eq_true hv)
end
end Go.Proofs.Ytlckljphakkomaa.Cal
