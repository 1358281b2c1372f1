/- Strong components by search, cycles, the search backwards: what holds from step to step, and what comes out. Plain Lean. -/
import Derived.Test.YtgminhedbeblpaaPl2
import Derived.Test.YtgminhedbeblpaaPl1
set_option linter.unusedVariables false
set_option linter.unusedSimpArgs false
namespace Go.Proofs.Ytgminhedbeblpaa.Cal
section

def up (f : Nat → Int) (v : Nat) (a : Int) : Nat → Int := fun w => if w = v then a else f w
theorem up_same {f : Nat → Int} {v : Nat} {a : Int} : up f v a v = a := if_pos rfl
theorem up_ne {f : Nat → Int} {v w : Nat} {a : Int} (h : w ≠ v) : up f v a w = f w := if_neg h

inductive Rch (E : Nat → Nat → Prop) : Nat → Nat → Prop
  | refl (a : Nat) : Rch E a a
  | step {a b c : Nat} : Rch E a b → E b c → Rch E a c
theorem Rch.trans {E : Nat → Nat → Prop} {a b c : Nat} (h : Rch E a b) (h2 : Rch E b c) : Rch E a c := by
  induction h2 with
  | refl => exact h
  | step _ e ih => exact .step ih e
theorem Rch.one {E : Nat → Nat → Prop} {a b : Nat} (h : E a b) : Rch E a b := .step (.refl a) h
theorem Rch.closed {E : Nat → Nat → Prop} {C : Nat → Prop} (hC : ∀ a b, C a → E a b → C b) {a b : Nat} (h : Rch E a b) (ha : C a) : C b := by
  induction h with
  | refl => exact ha
  | step _ e ih => exact hC _ _ ih e
theorem Rch.mono {E E' : Nat → Nat → Prop} (hE : ∀ a b, E a b → E' a b) {a b : Nat} (h : Rch E a b) : Rch E' a b := by
  induction h with
  | refl => exact .refl _
  | step _ e ih => exact .step ih (hE _ _ e)

def Ed (row : Nat → List Nat) (ok : Nat → Prop) (v t : Nat) : Prop := t ∈ row v ∧ ok t

structure TJ (n : Nat) (row : Nat → List Nat) (ok : Nat → Prop) (num low nx of : Nat → Int) (path stack : List Nat) (cnt many : Int) : Prop where
  n0 : ∀ v, v < n → 0 ≤ num v ∧ num v ≤ cnt
  inj : ∀ v w, v < n → w < n → 0 < num v → num v = num w → v = w
  mok : ∀ v, v < n → 0 < num v → ok v
  stk : ∀ v, v ∈ stack ↔ v < n ∧ 0 < num v ∧ of v < 0
  srt : stack.Pairwise fun a b => num a < num b
  psub : path.Sublist stack
  nx0 : ∀ v, v < n → 0 ≤ nx v ∧ nx v ≤ (row v).length
  fin : ∀ v, v < n → 0 < num v → v ∉ path → nx v = (row v).length
  met : ∀ v, v < n → 0 < num v → ∀ j : Nat, (j : Int) < nx v → ok ((row v).getD j 0) → 0 < num ((row v).getD j 0)
  nun : ∀ v, v < n → num v = 0 → nx v = 0
  cls : ∀ v, v < n → 0 ≤ of v → ∀ t, Ed row ok v t → 0 ≤ of t
  ofr : ∀ v, v < n → of v < many ∧ (0 ≤ of v → 0 < num v)
  ofn : ∀ v, v < n → -1 ≤ of v
  scc : ∀ v w, v < n → w < n → 0 ≤ of v → 0 ≤ of w → (of v = of w ↔ Rch (Ed row ok) v w ∧ Rch (Ed row ok) w v)
  i8 : ∀ v, v ∈ path → ∀ w, w ∈ stack → num v ≤ num w → Rch (Ed row ok) v w
  lw : ∀ w, w ∈ stack → ∃ u, u ∈ stack ∧ low w = num u ∧ Rch (Ed row ok) w u
  ll : ∀ w, w ∈ stack → low w ≤ num w
  i10a : ∀ w, w ∈ stack → w ∉ path → low w < num w
  i10b : ∀ p, p ∈ path → ∀ w, w ∈ stack → num p ≤ num w → (∀ p', p' ∈ path → num p' ≤ num w → num p' ≤ num p) → low p ≤ low w
  i11 : ∀ w, w ∈ stack → ∀ j : Nat, (j : Int) < nx w → ok ((row w).getD j 0) → (row w).getD j 0 ∈ stack → low w ≤ num ((row w).getD j 0)
  i12 : ∀ w, w ∈ stack → ∃ p, p ∈ path ∧ num p ≤ num w
  m0 : 0 ≤ many
  mc : many + stack.length ≤ cnt

section
variable {n : Nat} {row : Nat → List Nat} {ok : Nat → Prop} {num low nx of : Nat → Int} {path stack : List Nat} {cnt many : Int}

theorem TJ.pn (H : TJ n row ok num low nx of path stack cnt many) {v : Nat} (h : v ∈ path) : v ∈ stack := H.psub.subset h
theorem TJ.psrt (H : TJ n row ok num low nx of path stack cnt many) : path.Pairwise fun a b => num a < num b := H.srt.sublist H.psub
theorem TJ.last (H : TJ n row ok num low nx of path stack cnt many) {p : List Nat} {v : Nat} (h : path = p ++ [v]) : ∀ w, w ∈ p → num w < num v := by
  intro w hw
  have := H.psrt
  rw [h, List.pairwise_append] at this
  exact this.2.2 w hw v List.mem_cons_self
theorem TJ.lastle (H : TJ n row ok num low nx of path stack cnt many) {p : List Nat} {v : Nat} (h : path = p ++ [v]) : ∀ w, w ∈ path → num w ≤ num v := by
  intro w hw
  rw [h] at hw
  rcases List.mem_append.1 hw with hw | hw
  · have := H.last h w hw; omega
  · rw [List.mem_singleton.1 hw]; exact Int.le_refl _

/-- The move to t has been looked at. -/
theorem TJ.look (H : TJ n row ok num low nx of path stack cnt many) {v : Nat} (hv : v ∈ path) (hx : nx v < (row v).length)
    (ht : ok ((row v).getD (nx v).toNat 0) → 0 < num ((row v).getD (nx v).toNat 0))
    (hl : (row v).getD (nx v).toNat 0 ∈ stack → low v ≤ num ((row v).getD (nx v).toNat 0)) : TJ n row ok num low (up nx v (nx v + 1)) of path stack cnt many := by
  have hvs := H.pn hv
  obtain ⟨hvn, hvp, hvo⟩ := (H.stk v).1 hvs
  have hx0 := H.nx0 v hvn
  have key : ∀ j : Nat, (j : Int) < nx v + 1 → (j : Int) < nx v ∨ j = (nx v).toNat := fun j hj => by omega
  refine { H with nx0 := fun w hw => ?_, fin := fun w hw h1 h2 => ?_, met := fun w hw h1 j hj h2 => ?_, nun := fun w hw h => ?_, i11 := fun w hw j hj h1 h2 => ?_ }
  · by_cases e : w = v
    · subst e; rw [up_same]; omega
    · rw [up_ne e]; exact H.nx0 w hw
  · have e : w ≠ v := fun e => h2 (e ▸ hv)
    rw [up_ne e]; exact H.fin w hw h1 h2
  · by_cases e : w = v
    · subst e
      rw [up_same] at hj
      rcases key j hj with h | rfl
      · exact H.met w hw h1 j h h2
      · exact ht h2
    · rw [up_ne e] at hj; exact H.met w hw h1 j hj h2
  · have e : w ≠ v := fun e => by subst e; omega
    rw [up_ne e]; exact H.nun w hw h
  · by_cases e : w = v
    · subst e
      rw [up_same] at hj
      rcases key j hj with h | rfl
      · exact H.i11 w hw j h h1 h2
      · exact hl h2
    · rw [up_ne e] at hj; exact H.i11 w hw j hj h1 h2

/-- The least number within reach comes down. -/
theorem TJ.lower (H : TJ n row ok num low nx of path stack cnt many) {v x : Nat} (hv : v ∈ path) (hx : x ∈ stack) (hr : Rch (Ed row ok) v x) :
    TJ n row ok num (up low v (min (low v) (num x))) nx of path stack cnt many := by
  have hvs := H.pn hv
  obtain ⟨hvn, hvp, hvo⟩ := (H.stk v).1 hvs
  have hle : ∀ w, up low v (min (low v) (num x)) w ≤ low w := fun w => by
    by_cases e : w = v
    · subst e; rw [up_same]; omega
    · rw [up_ne e]; omega
  refine { H with lw := fun w hw => ?_, ll := fun w hw => ?_, i10a := fun w hw h1 => ?_, i10b := fun p hp w hw h1 h2 => ?_, i11 := fun w hw j hj h1 h2 => ?_ }
  · by_cases e : w = v
    · subst e
      rw [up_same]
      obtain ⟨u, h1, h2, h3⟩ := H.lw w hw
      by_cases h : low w ≤ num x
      · exact ⟨u, h1, by omega, h3⟩
      · exact ⟨x, hx, by omega, hr⟩
    · rw [up_ne e]; exact H.lw w hw
  · have := hle w; have := H.ll w hw; omega
  · have := hle w; have := H.i10a w hw h1; omega
  · by_cases e : w = v
    · subst e
      have h3 := h2 w hv (Int.le_refl _)
      obtain ⟨h4, h5, _⟩ := (H.stk p).1 (H.pn hp)
      have : p = w := H.inj p w h4 hvn h5 (by omega)
      subst this
      exact Int.le_refl _
    · have := H.i10b p hp w hw h1 h2
      have := hle p
      rw [up_ne e]; omega
  · have := hle w; have := H.i11 w hw j hj h1 h2; omega

/-- A position is met. -/
theorem TJ.enter (H : TJ n row ok num low nx of path stack cnt many) (hrow : ∀ v, v < n → ∀ t, t ∈ row v → t < n) {t : Nat} (ht : t < n) (hok : ok t) (hn : num t = 0) (hof : of t < 0)
    (hm : path = [] ∨ ∃ p v, path = p ++ [v] ∧ Ed row ok v t) :
    TJ n row ok (up num t (cnt + 1)) (up low t (cnt + 1)) nx of (path ++ [t]) (stack ++ [t]) (cnt + 1) many := by
  have hts : t ∉ stack := fun h => by have := ((H.stk t).1 h).2.1; omega
  have htp : t ∉ path := fun h => hts (H.pn h)
  have hcn : 0 ≤ cnt := by have := (H.n0 t ht).1; have := (H.n0 t ht).2; omega
  have hsn : ∀ w, w ∈ stack → up num t (cnt + 1) w = num w := fun w h => up_ne (fun e => hts (e ▸ h))
  have hsl : ∀ w, w ∈ stack → up low t (cnt + 1) w = low w := fun w h => up_ne (fun e => hts (e ▸ h))
  have hpn : ∀ w, w ∈ path → up num t (cnt + 1) w = num w := fun w h => hsn w (H.pn h)
  have hsb : ∀ w, w ∈ stack → w < n ∧ num w ≤ cnt := fun w h => by have h1 := ((H.stk w).1 h).1; exact ⟨h1, (H.n0 w h1).2⟩
  have hgt : ∀ w, 0 < num w → 0 < up num t (cnt + 1) w := fun w h => by
    by_cases e : w = t
    · subst e; rw [up_same]; omega
    · rw [up_ne e]; exact h
  have hto : ∀ v w, v ∈ stack → w = t → Rch (Ed row ok) v w → True := fun _ _ _ _ _ => trivial
  have hps : path = [] → stack = [] := fun h => by
    cases hs : stack with
    | nil => rfl
    | cons a l =>
      obtain ⟨p, hp, _⟩ := H.i12 a (by rw [hs]; exact List.mem_cons_self)
      rw [h] at hp; exact absurd hp List.not_mem_nil
  refine { n0 := fun v hv => ?_, inj := fun v w hv hw h1 h2 => ?_, mok := fun v hv h => ?_, stk := fun v => ?_, srt := ?_, psub := H.psub.append (List.Sublist.refl _), nx0 := H.nx0, fin := fun v hv h1 h2 => ?_, met := fun v hv h1 j hj h2 => ?_, nun := fun v hv h => ?_, cls := H.cls, ofr := fun v hv => ?_, ofn := H.ofn, scc := H.scc, i8 := fun v hv w hw h => ?_, lw := fun w hw => ?_, ll := fun w hw => ?_, i10a := fun w hw h => ?_, i10b := fun p hp w hw h1 h2 => ?_, i11 := fun w hw j hj h1 h2 => ?_, i12 := fun w hw => ?_, m0 := H.m0, mc := ?_ }
  · by_cases e : v = t
    · subst e; rw [up_same]; omega
    · rw [up_ne e]; have := H.n0 v hv; omega
  · by_cases e : v = t
    · by_cases e2 : w = t
      · rw [e, e2]
      · rw [e, up_same, up_ne e2] at h2
        have := (H.n0 w hw).2; omega
    · rw [up_ne e] at h1 h2
      by_cases e2 : w = t
      · rw [e2, up_same] at h2
        have := (H.n0 v hv).2; omega
      · rw [up_ne e2] at h2; exact H.inj v w hv hw h1 h2
  · by_cases e : v = t
    · rw [e]; exact hok
    · rw [up_ne e] at h; exact H.mok v hv h
  · rw [List.mem_append, List.mem_singleton]
    by_cases e : v = t
    · subst e
      rw [up_same]
      exact ⟨fun _ => ⟨ht, by omega, hof⟩, fun _ => .inr rfl⟩
    · rw [up_ne e]
      exact ⟨fun h => h.elim (fun h => (H.stk v).1 h) (fun h => absurd h e), fun h => .inl ((H.stk v).2 h)⟩
  · rw [List.pairwise_append]
    refine ⟨H.srt.imp_of_mem fun {a b} ha hb h => ?_, List.pairwise_singleton _ _, fun a ha b hb => ?_⟩
    · rw [hsn a ha, hsn b hb]; exact h
    · rw [List.mem_singleton.1 hb, up_same, hsn a ha]; have := (hsb a ha).2; omega
  · rw [List.mem_append, List.mem_singleton, not_or] at h2
    rw [up_ne h2.2] at h1
    exact H.fin v hv h1 h2.1
  · by_cases e : v = t
    · subst e; have := H.nun v hv hn; omega
    · rw [up_ne e] at h1
      exact hgt _ (H.met v hv h1 j hj h2)
  · by_cases e : v = t
    · subst e; rw [up_same] at h; omega
    · rw [up_ne e] at h; exact H.nun v hv h
  · refine ⟨(H.ofr v hv).1, fun h => hgt _ ((H.ofr v hv).2 h)⟩
  · rw [List.mem_append, List.mem_singleton] at hv hw
    rcases hv with hv | rfl
    · rcases hw with hw | rfl
      · rw [hpn v hv, hsn w hw] at h; exact H.i8 v hv w hw h
      · rcases hm with hm | ⟨p, u, hm, he⟩
        · rw [hm] at hv; exact absurd hv List.not_mem_nil
        · exact .step (H.i8 v hv u (H.pn (by rw [hm]; exact List.mem_append_right _ List.mem_cons_self)) (H.lastle hm v hv)) he
    · rcases hw with hw | rfl
      · rw [up_same, hsn w hw] at h; have := (hsb w hw).2; omega
      · exact .refl _
  · rw [List.mem_append, List.mem_singleton] at hw
    rcases hw with hw | rfl
    · obtain ⟨u, h1, h2, h3⟩ := H.lw w hw
      exact ⟨u, List.mem_append_left _ h1, by rw [hsl w hw, hsn u h1]; exact h2, h3⟩
    · exact ⟨w, List.mem_append_right _ List.mem_cons_self, by rw [up_same, up_same], .refl _⟩
  · rw [List.mem_append, List.mem_singleton] at hw
    rcases hw with hw | rfl
    · rw [hsl w hw, hsn w hw]; exact H.ll w hw
    · rw [up_same, up_same]; exact Int.le_refl _
  · rw [List.mem_append, List.mem_singleton] at hw h
    rw [not_or] at h
    rcases hw with hw | rfl
    · rw [hsl w hw, hsn w hw]; exact H.i10a w hw h.1
    · exact absurd rfl h.2
  · rw [List.mem_append, List.mem_singleton] at hw hp
    rcases hw with hw | rfl
    · rcases hp with hp | rfl
      · rw [hpn p hp, hsn w hw] at h1
        rw [hsl w hw, hsl p (H.pn hp)]
        refine H.i10b p hp w hw h1 fun p' hp' h => ?_
        have := h2 p' (List.mem_append_left _ hp') (by rw [hpn p' hp', hsn w hw]; exact h)
        rw [hpn p' hp', hpn p hp] at this; exact this
      · rw [up_same, hsn w hw] at h1; have := (hsb w hw).2; omega
    · rcases hp with hp | rfl
      · have := h2 w (List.mem_append_right _ List.mem_cons_self) (Int.le_refl _)
        rw [up_same, hpn p hp] at this
        have := (hsb p (H.pn hp)).2; omega
      · exact Int.le_refl _
  · rw [List.mem_append, List.mem_singleton] at hw
    rcases hw with hw | rfl
    · obtain ⟨hwn, hwp, _⟩ := (H.stk w).1 hw
      have hm2 := H.met w hwn hwp j hj h1
      have hne : (row w).getD j 0 ≠ t := fun e => by rw [e] at hm2; omega
      rw [hsl w hw, up_ne hne]
      rw [List.mem_append, List.mem_singleton] at h2
      exact H.i11 w hw j hj h1 (h2.elim id fun h => absurd h hne)
    · have := H.nun w ht hn; omega
  · rw [List.mem_append, List.mem_singleton] at hw
    rcases hw with hw | rfl
    · obtain ⟨p, hp, h⟩ := H.i12 w hw
      exact ⟨p, List.mem_append_left _ hp, by rw [hpn p hp, hsn w hw]; exact h⟩
    · exact ⟨w, List.mem_append_right _ List.mem_cons_self, Int.le_refl _⟩
  · have := H.mc
    rw [List.length_append, List.length_singleton]; omega

/-- The last position of the path is done with; it stays on the stack. -/
theorem TJ.leave (H : TJ n row ok num low nx of path stack cnt many) {p : List Nat} {v u : Nat} (hp : path = p ++ [v]) (hx : nx v = (row v).length) (hlv : low v ≠ num v) (hu : ∃ q, p = q ++ [u]) (hl : low u ≤ low v) :
    TJ n row ok num low nx of p stack cnt many := by
  have hv : v ∈ path := by rw [hp]; exact List.mem_append_right _ List.mem_cons_self
  have hpp : ∀ w, w ∈ p → w ∈ path := fun w h => by rw [hp]; exact List.mem_append_left _ h
  have hvs := H.pn hv
  obtain ⟨hvn, hvp, hvo⟩ := (H.stk v).1 hvs
  obtain ⟨q, hq⟩ := hu
  have hup : u ∈ p := by rw [hq]; exact List.mem_append_right _ List.mem_cons_self
  have hlp : ∀ w, w ∈ p → num w ≤ num u := by
    intro w hw
    have h1 := H.psrt
    rw [hp, List.pairwise_append] at h1
    have h1 := h1.1
    rw [hq] at hw h1
    rw [List.pairwise_append] at h1
    rcases List.mem_append.1 hw with hw | hw
    · have := h1.2.2 w hw u List.mem_cons_self; omega
    · rw [List.mem_singleton.1 hw]; exact Int.le_refl _
  have hsub : p.Sublist path := by rw [hp]; exact List.sublist_append_left p [v]
  have hor : ∀ w, w ∈ path → w ∈ p ∨ w = v := fun w h => by rw [hp, List.mem_append, List.mem_singleton] at h; exact h
  refine { H with psub := hsub.trans H.psub, fin := fun w hw h1 h2 => ?_, i8 := fun w hw => H.i8 w (hpp w hw), i10a := fun w hw h => ?_, i10b := fun a ha w hw h1 h2 => ?_, i12 := fun w hw => ?_ }
  · by_cases e : w = v
    · rw [e]; exact hx
    · exact H.fin w hw h1 fun h => (hor w h).elim h2 e
  · by_cases e : w = v
    · subst e; have := H.ll w hw; omega
    · exact H.i10a w hw fun h' => (hor w h').elim h e
  · by_cases hvw : num v ≤ num w
    · have hau : num a = num u := by
        have g1 := hlp a ha
        have g2 := H.last hp u hup
        have g3 := h2 u hup (by omega)
        omega
      obtain ⟨g4, g5, _⟩ := (H.stk a).1 (H.pn (hpp a ha))
      obtain ⟨g6, _, _⟩ := (H.stk u).1 (H.pn (hpp u hup))
      have e := H.inj a u g4 g6 g5 hau
      subst e
      have := H.i10b v hv w hw hvw fun p' hp' _ => H.lastle hp p' hp'
      omega
    · exact H.i10b a (hpp a ha) w hw h1 fun p' hp' h => by
        rcases hor p' hp' with h' | rfl
        · exact h2 p' h' h
        · exact absurd h hvw
  · obtain ⟨a, ha, h⟩ := H.i12 w hw
    rcases hor a ha with h' | rfl
    · exact ⟨a, h', h⟩
    · exact ⟨u, hup, by have := H.last hp u hup; omega⟩

theorem TJ.first (H : TJ n row ok num low nx of path stack cnt many) {v : Nat} (hp : path = [v]) : low v = num v := by
  have hv : v ∈ path := by rw [hp]; exact List.mem_cons_self
  obtain ⟨u, h1, h2, _⟩ := H.lw v (H.pn hv)
  obtain ⟨a, ha, h⟩ := H.i12 u h1
  rw [hp, List.mem_singleton] at ha
  subst ha
  have := H.ll a (H.pn hv)
  omega

/-- A component comes off the stack. -/
theorem TJ.pop (H : TJ n row ok num low nx of path stack cnt many) (hrow : ∀ v, v < n → ∀ t, t ∈ row v → t < n) {p : List Nat} {v : Nat} (hp : path = p ++ [v]) (hx : nx v = (row v).length) (hlv : low v = num v) {base top : List Nat} (hst : stack = base ++ v :: top) :
    TJ n row ok num low nx (fun w => if w ∈ v :: top then many else of w) p base cnt (many + 1) := by
  have hv : v ∈ path := by rw [hp]; exact List.mem_append_right _ List.mem_cons_self
  have hpp : ∀ w, w ∈ p → w ∈ path := fun w h => by rw [hp]; exact List.mem_append_left _ h
  have hvs := H.pn hv
  obtain ⟨hvn, hvp, hvo⟩ := (H.stk v).1 hvs
  have hor : ∀ w, w ∈ path → w ∈ p ∨ w = v := fun w h => by rw [hp, List.mem_append, List.mem_singleton] at h; exact h
  have hm0 := H.m0
  -- the component: those at or above v
  have hsr := H.srt
  rw [hst, List.pairwise_append, List.pairwise_cons] at hsr
  obtain ⟨s1, ⟨s2, s3⟩, s4⟩ := hsr
  have hbs : ∀ w, w ∈ base → w ∈ stack := fun w h => by rw [hst]; exact List.mem_append_left _ h
  have hcs : ∀ w, w ∈ v :: top → w ∈ stack := fun w h => by rw [hst]; exact List.mem_append_right _ h
  have hbl : ∀ w, w ∈ base → num w < num v := fun w h => s4 w h v List.mem_cons_self
  have hcl : ∀ w, w ∈ v :: top → num v ≤ num w := fun w h => by
    rcases List.mem_cons.1 h with rfl | h
    · exact Int.le_refl _
    · have := s2 w h; omega
  have hsp : ∀ w, w ∈ stack → w ∈ base ∨ w ∈ v :: top := fun w h => by rw [hst] at h; exact List.mem_append.1 h
  have hge : ∀ w, w ∈ stack → num v ≤ num w → w ∈ v :: top := fun w h h' => (hsp w h).elim (fun hb => by have := hbl w hb; omega) id
  have hlow : ∀ w, w ∈ v :: top → num v ≤ low w := fun w h => by
    have := H.i10b v hv w (hcs w h) (hcl w h) fun p' hp' _ => H.lastle hp p' hp'
    omega
  have htop : ∀ w, w ∈ top → w ∉ path := fun w h h' => by
    have := H.lastle hp w h'
    have := s2 w h; omega
  have hback : ∀ k : Nat, ∀ w, w ∈ v :: top → (num w).toNat ≤ k → Rch (Ed row ok) w v := by
    intro k
    induction k with
    | zero =>
      intro w hw hk
      have := hcl w hw; omega
    | succ k ih =>
      intro w hw hk
      rcases List.mem_cons.1 hw with rfl | hw'
      · exact .refl _
      · obtain ⟨u, h1, h2, h3⟩ := H.lw w (hcs w hw)
        have g1 := H.i10a w (hcs w hw) (htop w hw')
        have g2 := hlow w hw
        exact h3.trans (ih u (hge u h1 (by omega)) (by omega))
  have hcom : ∀ a b, a ∈ v :: top → b ∈ v :: top → Rch (Ed row ok) a b := fun a b ha hb => (hback _ a ha (Nat.le_refl _)).trans (H.i8 v hv b (hcs b hb) (hcl b hb))
  have hclo : ∀ w, w ∈ v :: top → ∀ t, Ed row ok w t → 0 ≤ of t ∨ t ∈ v :: top := by
    intro w hw t ht
    obtain ⟨hwn, hwp, _⟩ := (H.stk w).1 (hcs w hw)
    have hfx : nx w = (row w).length := by
      rcases List.mem_cons.1 hw with rfl | hw'
      · exact hx
      · exact H.fin w hwn hwp (htop w hw')
    obtain ⟨j, hj, rfl⟩ := List.getElem_of_mem ht.1
    have ed : (row w).getD j 0 = (row w)[j] := by rw [List.getD_eq_getElem?_getD, List.getElem?_eq_getElem hj]; rfl
    have g1 := H.met w hwn hwp j (by omega) (by rw [ed]; exact ht.2)
    have g2 := H.i11 w (hcs w hw) j (by omega) (by rw [ed]; exact ht.2)
    rw [ed] at g1 g2
    by_cases hof : 0 ≤ of (row w)[j]
    · exact .inl hof
    · have hs : (row w)[j] ∈ stack := (H.stk _).2 ⟨hrow w hwn _ ht.1, g1, by omega⟩
      have := g2 hs
      have := hlow w hw
      exact .inr (hge _ hs (by omega))
  have hob : ∀ w, w ∈ stack → of w < 0 := fun w h => ((H.stk w).1 h).2.2
  have hof1 : ∀ w, w ∈ v :: top → (if w ∈ v :: top then many else of w) = many := fun w h => if_pos h
  have hof2 : ∀ w, w ∉ v :: top → (if w ∈ v :: top then many else of w) = of w := fun w h => if_neg h
  have hpb : ∀ w, w ∈ p → w ∈ base := fun w h => by
    rcases hsp w (H.pn (hpp w h)) with h' | h'
    · exact h'
    · have := hcl w h'; have := H.last hp w h; omega
  have hsub : p.Sublist base := by
    have h1 := H.psub
    rw [hp, hst] at h1
    obtain ⟨l1, l2, e, g1, g2⟩ := List.sublist_append_iff.1 h1
    rcases List.append_eq_append_iff.1 e with ⟨a, e1, e2⟩ | ⟨a, e1, e2⟩
    · rw [e1] at g1
      exact (List.sublist_append_left p a).trans g1
    · cases a with
      | nil => rw [List.append_nil] at e1; rw [e1]; exact g1
      | cons b a =>
        have hb1 : b ∈ p := by rw [e1]; exact List.mem_append_right _ List.mem_cons_self
        have hb2 : b ∈ l2 := by rw [e2]; exact List.mem_cons_self
        have := hcl b (g2.subset hb2)
        have := H.last hp b hb1
        omega
  have hclosed : ∀ a b, (0 ≤ of a ∧ a < n) → Ed row ok a b → (0 ≤ of b ∧ b < n) := fun a b h e => ⟨H.cls a h.2 h.1 b e, hrow a h.2 b e.1⟩
  refine { H with stk := fun w => ?_, srt := s1, psub := hsub, fin := fun w hw h1 h2 => ?_, cls := fun w hw h t ht => ?_, ofr := fun w hw => ?_, ofn := fun w hw => ?_, scc := fun a b ha hb h1 h2 => ?_, i8 := fun w hw x hx' h => H.i8 w (hpp w hw) x (hbs x hx') h, lw := fun w hw => ?_, ll := fun w hw => H.ll w (hbs w hw), i10a := fun w hw h => ?_, i10b := fun a ha w hw h1 h2 => ?_, i11 := fun w hw j hj h1 h2 => H.i11 w (hbs w hw) j hj h1 (hbs _ h2), i12 := fun w hw => ?_, m0 := by omega, mc := ?_ }
  · by_cases hc : w ∈ v :: top
    · rw [hof1 w hc]
      exact ⟨fun h => by have := hbl w h; have := hcl w hc; omega, fun h => by omega⟩
    · rw [hof2 w hc, ← H.stk w]
      exact ⟨fun h => hbs w h, fun h => (hsp w h).elim id fun h => absurd h hc⟩
  · by_cases e : w = v
    · rw [e]; exact hx
    · exact H.fin w hw h1 fun h => (hor w h).elim h2 e
  · by_cases hc : w ∈ v :: top
    · rcases hclo w hc t ht with h' | h'
      · by_cases hc2 : t ∈ v :: top
        · rw [hof1 t hc2]; exact hm0
        · rw [hof2 t hc2]; exact h'
      · rw [hof1 t h']; exact hm0
    · rw [hof2 w hc] at h
      have := H.cls w hw h t ht
      by_cases hc2 : t ∈ v :: top
      · rw [hof1 t hc2]; exact hm0
      · rw [hof2 t hc2]; exact this
  · by_cases hc : w ∈ v :: top
    · rw [hof1 w hc]
      exact ⟨by omega, fun _ => ((H.stk w).1 (hcs w hc)).2.1⟩
    · rw [hof2 w hc]
      have := H.ofr w hw
      exact ⟨by omega, this.2⟩
  · by_cases hc : w ∈ v :: top
    · rw [hof1 w hc]; omega
    · rw [hof2 w hc]; exact H.ofn w hw
  · by_cases hca : a ∈ v :: top
    · by_cases hcb : b ∈ v :: top
      · rw [hof1 a hca, hof1 b hcb]
        exact ⟨fun _ => ⟨hcom a b hca hcb, hcom b a hcb hca⟩, fun _ => rfl⟩
      · rw [hof1 a hca, hof2 b hcb]
        rw [hof2 b hcb] at h2
        refine ⟨fun e => by have := (H.ofr b hb).1; omega, fun h => ?_⟩
        have := (h.2.closed hclosed ⟨h2, hb⟩).1
        have := hob a (hcs a hca); omega
    · rw [hof2 a hca] at h1 ⊢
      by_cases hcb : b ∈ v :: top
      · rw [hof1 b hcb]
        refine ⟨fun e => by have := (H.ofr a ha).1; omega, fun h => ?_⟩
        have := (h.1.closed hclosed ⟨h1, ha⟩).1
        have := hob b (hcs b hcb); omega
      · rw [hof2 b hcb] at h2 ⊢
        exact H.scc a b ha hb h1 h2
  · obtain ⟨u, h1, h2, h3⟩ := H.lw w (hbs w hw)
    refine ⟨u, ?_, h2, h3⟩
    rcases hsp u h1 with h' | h'
    · exact h'
    · have := hcl u h'; have := H.ll w (hbs w hw); have := hbl w hw; omega
  · refine H.i10a w (hbs w hw) fun h' => ?_
    rcases hor w h' with h' | rfl
    · exact h h'
    · have := hbl w hw; omega
  · refine H.i10b a (hpp a ha) w (hbs w hw) h1 fun p' hp' h => ?_
    rcases hor p' hp' with h' | rfl
    · exact h2 p' h' h
    · have := hbl w hw; omega
  · obtain ⟨a, ha, h⟩ := H.i12 w (hbs w hw)
    rcases hor a ha with h' | rfl
    · exact ⟨a, h', h⟩
    · have := hbl w hw; omega
  · have := H.mc
    rw [hst, List.length_append, List.length_cons] at this
    omega
end

theorem TJ.begin' {n : Nat} {row : Nat → List Nat} {ok : Nat → Prop} {of : Nat → Int} (h : ∀ v, v < n → of v = -1) : TJ n row ok (fun _ => 0) (fun _ => 0) (fun _ => 0) of [] [] 0 0 where
  n0 := fun v _ => ⟨Int.le_refl _, Int.le_refl _⟩
  inj := fun v w _ _ h => absurd h (Int.lt_irrefl _)
  mok := fun v _ h => absurd h (Int.lt_irrefl _)
  stk := fun v => ⟨fun h => absurd h List.not_mem_nil, fun h => absurd h.2.1 (Int.lt_irrefl _)⟩
  srt := .nil
  psub := List.Sublist.refl _
  nx0 := fun v _ => ⟨Int.le_refl _, Int.natCast_nonneg _⟩
  fin := fun v _ h => absurd h (Int.lt_irrefl _)
  met := fun v _ h => absurd h (Int.lt_irrefl _)
  nun := fun v _ _ => rfl
  cls := fun v hv h0 => by have := h v hv; omega
  ofr := fun v hv => ⟨by have := h v hv; omega, fun h0 => by have := h v hv; omega⟩
  ofn := fun v hv => by have := h v hv; omega
  scc := fun v w hv hw h0 => by have := h v hv; omega
  i8 := fun v hv => absurd hv List.not_mem_nil
  lw := fun v hv => absurd hv List.not_mem_nil
  ll := fun v hv => absurd hv List.not_mem_nil
  i10a := fun v hv => absurd hv List.not_mem_nil
  i10b := fun v hv => absurd hv List.not_mem_nil
  i11 := fun v hv => absurd hv List.not_mem_nil
  i12 := fun v hv => absurd hv List.not_mem_nil
  m0 := Int.le_refl _
  mc := Int.le_refl _

/-! Sums -/
def sm (f : Nat → Int) : Nat → Int
  | 0 => 0
  | n + 1 => sm f n + f n
theorem sm_same {f h : Nat → Int} : ∀ {n : Nat}, (∀ v, v < n → f v = h v) → sm f n = sm h n
  | 0, _ => rfl
  | n + 1, H => by rw [sm, sm, sm_same fun v hv => H v (by omega), H n (by omega)]
theorem sm_up {f : Nat → Int} {v : Nat} {a : Int} : ∀ {n : Nat}, v < n → sm (up f v a) n = sm f n - f v + a
  | 0, h => absurd h (Nat.not_lt_zero v)
  | n + 1, h => by
    rw [sm, sm]
    by_cases e : v = n
    · subst e
      rw [up_same, sm_same (f := up f v a) (h := f) fun w hw => up_ne (by omega)]
      omega
    · rw [sm_up (n := n) (by omega), up_ne (by omega)]
      omega
theorem sm_nonneg {f : Nat → Int} : ∀ {n : Nat}, (∀ v, v < n → 0 ≤ f v) → 0 ≤ sm f n
  | 0, _ => by unfold sm; omega
  | n + 1, H => by rw [sm]; have := sm_nonneg (f := f) (n := n) fun v hv => H v (by omega); have := H n (by omega); omega

end
section
open Go Pl

/-- The rows of a game as numbers. -/
def rws (x : List (List Int)) (v : Nat) : List Nat := (x.getD v []).map Int.toNat
def okP (p : List Int) (top : Int) (v : Nat) : Prop := p.getD v 0 ≤ top

structure CompR (g : Gm) (top : Int) (of : List Int) (many : Int) : Prop where
  len : of.length = g.own.length
  rng : ∀ v, v < g.own.length → -1 ≤ of.getD v 0 ∧ of.getD v 0 < many
  isin : ∀ v, v < g.own.length → (0 ≤ of.getD v 0 ↔ g.pri.getD v 0 ≤ top)
  scc : ∀ v w, v < g.own.length → w < g.own.length → 0 ≤ of.getD v 0 → 0 ≤ of.getD w 0 → (of.getD v 0 = of.getD w 0 ↔ Rch (Ed (rws g.nxt) (okP g.pri top)) v w ∧ Rch (Ed (rws g.nxt) (okP g.pri top)) w v)
  mm : 0 ≤ many ∧ many ≤ g.own.length

theorem upL {xs : List Int} {v : Nat} {a : Int} (h : v < xs.length) : (fun w => (xs.set v a).getD w 0) = up (fun w => xs.getD w 0) v a := by
  funext w
  rw [getD_set h]; rfl

structure TS where
  num : List Int
  low : List Int
  nx : List Int
  of : List Int
  path : List Nat
  stack : List Nat
  cnt : Int
  many : Int
  i : Nat

def unm (num : List Int) (v : Nat) : Int := if num.getD v 0 = 0 then 1 else 0
structure TV (n : Nat) (p : List Int) (x : List (List Int)) (top : Int) (s : TS) : Prop where
  ln : s.num.length = n
  ll : s.low.length = n
  lx : s.nx.length = n
  lo : s.of.length = n
  tj : TJ n (rws x) (okP p top) (fun v => s.num.getD v 0) (fun v => s.low.getD v 0) (fun v => s.nx.getD v 0) (fun v => s.of.getD v 0) s.path s.stack s.cnt s.many
  cn : s.cnt + sm (unm s.num) n = n
  im : s.i ≤ n
  dn : ∀ v, v < s.i → okP p top v → 0 < s.num.getD v 0

/-- How much is left to do. -/
def lf (n : Nat) (x : List (List Int)) (s : TS) : Nat := (2 * sm (fun v => ((x.getD v []).length : Int) - s.nx.getD v 0) n + s.path.length).toNat

theorem TV.facts {n : Nat} {p : List Int} {x : List (List Int)} {top : Int} {s : TS} (H : TV n p x top s) : 0 ≤ s.cnt ∧ s.cnt ≤ n ∧ 0 ≤ s.many ∧ s.many ≤ n ∧ s.path.length ≤ n ∧ s.stack.length ≤ n ∧ (∀ v, v ∈ s.path → v < n) ∧ (∀ v, v ∈ s.stack → v < n) := by
  have h1 : 0 ≤ sm (unm s.num) n := sm_nonneg fun v hv => by unfold unm; split <;> omega
  have h2 := H.cn
  have h3 := H.tj.mc
  have h4 := H.tj.m0
  have h5 : ∀ v, v ∈ s.stack → v < n := fun v h => ((H.tj.stk v).1 h).1
  have h6 := H.tj.psub.length_le
  refine ⟨by omega, by omega, h4, by omega, by omega, by omega, fun v h => h5 v (H.tj.pn h), h5⟩

section
variable {n : Nat} {p : List Int} {x : List (List Int)} {top : Int} {s : TS}

theorem TV.next (H : TV n p x top s) (hi : s.i < n) (hd : okP p top s.i → 0 < s.num.getD s.i 0) : TV n p x top { s with i := s.i + 1 } :=
  { H with
    im := hi
    dn := fun v hv ho => (Nat.lt_succ_iff_lt_or_eq.1 hv).elim (fun h => H.dn v h ho) (fun h => by subst h; exact hd ho) }

theorem TV.enter (H : TV n p x top s) (hrow : ∀ v, v < n → ∀ t, t ∈ rws x v → t < n) {t : Nat} (ht : t < n) (hok : okP p top t) (hn : s.num.getD t 0 = 0) (hm : s.path = [] ∨ ∃ q v, s.path = q ++ [v] ∧ Ed (rws x) (okP p top) v t) :
    TV n p x top { s with num := s.num.set t (s.cnt + 1), low := s.low.set t (s.cnt + 1), path := s.path ++ [t], stack := s.stack ++ [t], cnt := s.cnt + 1 } := by
  have h1 : t < s.num.length := by rw [H.ln]; exact ht
  have h2 : t < s.low.length := by rw [H.ll]; exact ht
  have hof : s.of.getD t 0 < 0 := by
    rcases Int.lt_or_le (s.of.getD t 0) 0 with h | h
    · exact h
    · have := (H.tj.ofr t ht).2 h
      have : 0 < s.num.getD t 0 := this
      omega
  have hc := H.facts.1
  have hj := H.tj.enter hrow ht hok hn hof hm
  refine { ln := by rw [List.length_set]; exact H.ln, ll := by rw [List.length_set]; exact H.ll, lx := H.lx, lo := H.lo, tj := by rw [upL h1, upL h2]; exact hj, cn := ?_, im := H.im, dn := fun v hv ho => ?_ }
  · have e : unm (s.num.set t (s.cnt + 1)) = up (unm s.num) t 0 := by
      funext w
      unfold unm up
      dsimp only
      rw [getD_set h1]
      by_cases e : w = t
      · rw [if_pos e, if_pos e, if_neg (by omega)]
      · rw [if_neg e, if_neg e]
    have e2 : unm s.num t = 1 := if_pos hn
    have := H.cn
    dsimp only
    rw [e, sm_up ht, e2]; omega
  · have := H.dn v hv ho
    show 0 < (s.num.set t (s.cnt + 1)).getD v 0
    rw [getD_set h1]
    split
    · omega
    · exact this

theorem rws_len {x : List (List Int)} {v : Nat} : (rws x v).length = (x.getD v []).length := List.length_map ..
theorem rws_getD {x : List (List Int)} {v j : Nat} : (rws x v).getD j 0 = ((x.getD v []).getD j 0).toNat := by
  simp only [rws, List.getD_eq_getElem?_getD, List.getElem?_map]
  cases (x[v]?.getD [])[j]? <;> rfl

theorem TV.look (H : TV n p x top s) {v t : Nat} (hv : v ∈ s.path) (hx : s.nx.getD v 0 < (x.getD v []).length) (ht : (rws x v).getD (s.nx.getD v 0).toNat 0 = t)
    (h1 : okP p top t → 0 < s.num.getD t 0) (h2 : t ∈ s.stack → s.low.getD v 0 ≤ s.num.getD t 0) : TV n p x top { s with nx := s.nx.set v (s.nx.getD v 0 + 1) } ∧ lf n x { s with nx := s.nx.set v (s.nx.getD v 0 + 1) } + 2 = lf n x s := by
  have hvn : v < n := H.facts.2.2.2.2.2.2.1 v hv
  have h3 : v < s.nx.length := by rw [H.lx]; exact hvn
  subst ht
  refine ⟨{ H with lx := by rw [List.length_set]; exact H.lx, tj := by rw [upL h3]; exact H.tj.look hv (by rw [rws_len]; exact hx) h1 h2 }, ?_⟩
  have e : (fun w => ((x.getD w []).length : Int) - (s.nx.set v (s.nx.getD v 0 + 1)).getD w 0) = up (fun w => ((x.getD w []).length : Int) - s.nx.getD w 0) v (((x.getD v []).length : Int) - s.nx.getD v 0 - 1) := by
    funext w
    unfold up
    rw [getD_set h3]
    by_cases e : w = v
    · subst e; rw [if_pos rfl, if_pos rfl]; omega
    · rw [if_neg e, if_neg e]
  have h4 : 0 ≤ sm (up (fun w => ((x.getD w []).length : Int) - s.nx.getD w 0) v (((x.getD v []).length : Int) - s.nx.getD v 0 - 1)) n := by
    rw [← e]
    refine sm_nonneg fun w hw => ?_
    have := H.tj.nx0 w hw
    rw [rws_len] at this
    rw [getD_set h3]
    split
    · next h => subst h; omega
    · omega
  unfold lf
  dsimp only
  rw [e]
  rw [sm_up hvn] at h4 ⊢
  omega

theorem TV.lower (H : TV n p x top s) {v w : Nat} (hv : v ∈ s.path) (hw : w ∈ s.stack) (hr : Rch (Ed (rws x) (okP p top)) v w) : TV n p x top { s with low := s.low.set v (min (s.low.getD v 0) (s.num.getD w 0)) } := by
  have h3 : v < s.low.length := by rw [H.ll]; exact H.facts.2.2.2.2.2.2.1 v hv
  exact { H with ll := by rw [List.length_set]; exact H.ll, tj := by rw [upL h3]; exact H.tj.lower hv hw hr }

theorem TV.leave (H : TV n p x top s) {q : List Nat} {v : Nat} (hp : s.path = q ++ [v]) (hx : s.nx.getD v 0 = (x.getD v []).length) (hlv : s.low.getD v 0 ≠ s.num.getD v 0) (hu : q ≠ [] → ∃ r u, q = r ++ [u] ∧ s.low.getD u 0 ≤ s.low.getD v 0) :
    TV n p x top { s with path := q } ∧ lf n x { s with path := q } < lf n x s := by
  have hq : q ≠ [] := fun e => hlv (H.tj.first (by rw [hp, e]; rfl))
  obtain ⟨r, u, hr, hl⟩ := hu hq
  refine ⟨{ H with tj := H.tj.leave hp (by rw [rws_len]; exact hx) hlv ⟨r, hr⟩ hl }, ?_⟩
  have h4 : 0 ≤ sm (fun w => ((x.getD w []).length : Int) - s.nx.getD w 0) n := by
    refine sm_nonneg fun w hw => ?_
    have := H.tj.nx0 w hw
    rw [rws_len] at this
    omega
  unfold lf
  dsimp only
  rw [hp, List.length_append, List.length_singleton]
  omega

/-- Several positions get one number. -/
def setAll (of : List Int) (l : List Nat) (c : Int) : List Int := (List.range of.length).map fun w => if w ∈ l then c else of.getD w 0
theorem setAll_len {of : List Int} {l : List Nat} {c : Int} : (setAll of l c).length = of.length := by simp [setAll]
theorem setAll_nil {of : List Int} {c : Int} : setAll of [] c = of := by
  refine List.ext_getElem setAll_len fun j h1 h2 => ?_
  simp [setAll, List.getD_eq_getElem?_getD, h2]
theorem setAll_set {of : List Int} {l : List Nat} {c : Int} {t : Nat} (ht : t < of.length) : (setAll of l c).set t c = setAll of (t :: l) c := by
  refine List.ext_getElem? fun j => ?_
  rw [List.getElem?_set]
  simp only [setAll, List.getElem?_map, List.length_map, List.length_range]
  by_cases hj : j < of.length
  · rw [List.getElem?_range hj]
    by_cases hij : t = j
    · subst hij; simp [ht]
    · rw [if_neg hij]
      simp only [Option.map_some, Option.some.injEq, List.mem_cons]
      by_cases h : j ∈ l
      · rw [if_pos h, if_pos (.inr h)]
      · rw [if_neg h, if_neg (fun h' => h'.elim (fun h' => hij h'.symm) h)]
  · rw [List.getElem?_eq_none (by simpa using hj)]
    by_cases hij : t = j
    · subst hij; exact absurd ht hj
    · rw [if_neg hij]; rfl
theorem setAll_getD {of : List Int} {l : List Nat} {c : Int} (hl : ∀ w, w ∈ l → w < of.length) : (fun w => (setAll of l c).getD w 0) = fun w => if w ∈ l then c else of.getD w 0 := by
  funext w
  simp only [setAll, List.getD_eq_getElem?_getD, List.getElem?_map]
  by_cases h : w < of.length
  · rw [List.getElem?_range h]; rfl
  · rw [List.getElem?_eq_none (by simpa using h), if_neg fun h' => h (hl w h'), List.getElem?_eq_none (by omega)]; rfl

theorem TV.pop (H : TV n p x top s) (hrow : ∀ v, v < n → ∀ t, t ∈ rws x v → t < n) {q : List Nat} {v : Nat} (hp : s.path = q ++ [v]) (hx : s.nx.getD v 0 = (x.getD v []).length) (hlv : s.low.getD v 0 = s.num.getD v 0) {base tp : List Nat} (hst : s.stack = base ++ v :: tp) :
    TV n p x top { s with path := q, stack := base, of := setAll s.of (v :: tp) s.many, many := s.many + 1 } ∧ lf n x { s with path := q, stack := base, of := setAll s.of (v :: tp) s.many, many := s.many + 1 } < lf n x s := by
  have hc : ∀ w, w ∈ v :: tp → w < s.of.length := fun w h => by
    rw [H.lo]; exact H.facts.2.2.2.2.2.2.2 w (by rw [hst]; exact List.mem_append_right _ h)
  refine ⟨{ H with lo := by rw [setAll_len]; exact H.lo, tj := by dsimp only; rw [setAll_getD hc]; exact H.tj.pop hrow hp (by rw [rws_len]; exact hx) hlv hst }, ?_⟩
  have h4 : 0 ≤ sm (fun w => ((x.getD w []).length : Int) - s.nx.getD w 0) n := by
    refine sm_nonneg fun w hw => ?_
    have := H.tj.nx0 w hw
    rw [rws_len] at this
    omega
  unfold lf
  dsimp only
  rw [hp, List.length_append, List.length_singleton]
  omega

theorem TV.begin : TV n p x top ⟨List.replicate n 0, List.replicate n 0, List.replicate n 0, (List.range n).map fun _ => -1, [], [], 0, 0, 0⟩ := by
  have hz : (fun v => (List.replicate n (0 : Int)).getD v 0) = fun _ => (0 : Int) := by
    funext v; simp only [List.getD_eq_getElem?_getD, List.getElem?_replicate]; split <;> rfl
  have hs : sm (unm (List.replicate n (0 : Int))) n = n := by
    have : unm (List.replicate n (0 : Int)) = fun _ => 1 := by
      funext v; unfold unm; rw [if_pos (congrFun hz v)]
    rw [this]
    have : ∀ m : Nat, sm (fun _ => 1) m = m := fun m => by
      induction m with
      | zero => rfl
      | succ m ih => rw [sm, ih]; omega
    exact this n
  refine { ln := List.length_replicate .., ll := List.length_replicate .., lx := List.length_replicate .., lo := by rw [List.length_map, List.length_range], tj := ?_, cn := by dsimp only; rw [hs]; omega, im := Nat.zero_le _, dn := fun v hv => absurd hv (Nat.not_lt_zero v) }
  dsimp only
  rw [hz]
  have hof : ∀ v, v < n → ((List.range n).map fun _ => (-1 : Int)).getD v 0 = -1 := fun v hv => by simp [List.getD_eq_getElem?_getD, hv]
  exact TJ.begin' hof
end

theorem TV.sm0 {n : Nat} {p : List Int} {x : List (List Int)} {top : Int} {s : TS} (H : TV n p x top s) : 0 ≤ sm (fun w => ((x.getD w []).length : Int) - s.nx.getD w 0) n := by
  refine sm_nonneg fun w hw => ?_
  have := H.tj.nx0 w hw
  rw [rws_len] at this
  omega

theorem last_of {b : List Nat} {v : Nat} {r : List Nat} : ∃ S t, b ++ v :: r = S ++ [t] ∧ ((r = [] ∧ S = b ∧ t = v) ∨ ∃ r', r = r' ++ [t] ∧ S = b ++ v :: r') := by
  rcases List.eq_nil_or_concat r with h | ⟨r', t, h⟩
  · subst h; exact ⟨b, v, rfl, .inl ⟨rfl, rfl, rfl⟩⟩
  · rw [List.concat_eq_append] at h; subst h
    exact ⟨b ++ v :: r', t, by simp, .inr ⟨r', rfl, rfl⟩⟩

theorem map_last {p : List Nat} {v : Nat} : ((p ++ [v]).map fun v : Nat => (v : Int)).getD (((((p ++ [v]).map fun v : Nat => (v : Int)).length : Nat) : Int) - 1).toNat 0 = v := by
  have : (((((p ++ [v]).map fun v : Nat => (v : Int)).length : Nat) : Int) - 1).toNat = p.length := by
    rw [List.length_map, List.length_append, List.length_singleton]; omega
  rw [this, List.map_append, List.getD_eq_getElem?_getD, List.getElem?_append_right (by rw [List.length_map]; exact Nat.le_refl _), List.length_map, Nat.sub_self]; rfl
theorem map_cut {p : List Nat} {v : Nat} : ((p ++ [v]).map fun v : Nat => (v : Int)).take (((((p ++ [v]).map fun v : Nat => (v : Int)).length : Nat) : Int) - 1).toNat = p.map fun v : Nat => (v : Int) := by
  have : (((((p ++ [v]).map fun v : Nat => (v : Int)).length : Nat) : Int) - 1).toNat = (p.map fun v : Nat => (v : Int)).length := by
    rw [List.length_map, List.length_append, List.length_singleton, List.length_map]; omega
  rw [this, List.map_append, List.take_left']
  rfl


end
section
open Go Pl

/-- By at least one move, through positions up to a priority. -/
def Rch1 (g : Gm) (top : Int) (v w : Nat) : Prop := ∃ t, Ed (rws g.nxt) (okP g.pri top) v t ∧ Rch (Ed (rws g.nxt) (okP g.pri top)) t w

theorem Rch.head {E : Nat → Nat → Prop} {a b : Nat} (h : Rch E a b) : a = b ∨ ∃ t, E a t ∧ Rch E t b := by
  induction h with
  | refl => exact .inl rfl
  | step h e ih =>
    rcases ih with rfl | ⟨t, h1, h2⟩
    · exact .inr ⟨_, e, .refl _⟩
    · exact .inr ⟨t, h1, .step h2 e⟩

theorem count_more {l : List Int} {v : Nat} (hv : v < l.length) : 1 < l.count (l.getD v 0) ↔ ∃ w, w < l.length ∧ w ≠ v ∧ l.getD w 0 = l.getD v 0 := by
  have hg : ∀ w, w < l.length → l.getD w 0 ∈ l := fun w hw => by
    rw [List.getD_eq_getElem?_getD, List.getElem?_eq_getElem hw]; exact List.getElem_mem hw
  generalize hc : l.getD v 0 = c
  have hsp : l = l.take v ++ c :: l.drop (v + 1) := by
    rw [← hc]
    have h1 := List.take_append_drop v l
    rw [List.drop_eq_getElem_cons hv] at h1
    rw [List.getD_eq_getElem?_getD, List.getElem?_eq_getElem hv]
    exact h1.symm
  have h2 : l.count c = (l.take v).count c + ((l.drop (v + 1)).count c + 1) := by
    conv => lhs; rw [hsp]
    rw [List.count_append, List.count_cons_self]
  rw [h2]
  constructor
  · intro h
    by_cases h3 : 0 < (l.take v).count c
    · obtain ⟨w, hw, e⟩ := List.getElem_of_mem (List.count_pos_iff.1 h3)
      rw [List.length_take] at hw
      rw [List.getElem_take] at e
      exact ⟨w, by omega, by omega, by rw [List.getD_eq_getElem?_getD, List.getElem?_eq_getElem (by omega)]; exact e⟩
    · obtain ⟨w, hw, e⟩ := List.getElem_of_mem (List.count_pos_iff.1 (show 0 < (l.drop (v + 1)).count c by omega))
      rw [List.length_drop] at hw
      rw [List.getElem_drop] at e
      exact ⟨v + 1 + w, by omega, by omega, by rw [List.getD_eq_getElem?_getD, List.getElem?_eq_getElem (by omega)]; exact e⟩
  · rintro ⟨w, hw, hne, e⟩
    rcases Nat.lt_or_gt_of_ne hne with h | h
    · have : c ∈ l.take v := by
        rw [← e, List.getD_eq_getElem?_getD, List.getElem?_eq_getElem hw]
        exact List.mem_take_iff_getElem.2 ⟨w, by omega, rfl⟩
      have := List.count_pos_iff.2 this; omega
    · have : c ∈ l.drop (v + 1) := by
        rw [← e, List.getD_eq_getElem?_getD, List.getElem?_eq_getElem hw]
        exact List.mem_drop_iff_getElem.2 ⟨w - (v + 1), by omega, by simp only [show v + 1 + (w - (v + 1)) = w from by omega]; rfl⟩
      have := List.count_pos_iff.2 this; omega

theorem comp_cyc {g : Gm} {top : Int} {of : List Int} {many : Int} (H : CompR g top of many) (hrow : ∀ v, v < g.own.length → ∀ t, t ∈ rws g.nxt v → t < g.own.length) {v : Nat} (hv : v < g.own.length) (h0 : 0 ≤ of.getD v 0) :
    (1 < of.count (of.getD v 0) ∨ v ∈ rws g.nxt v) ↔ Rch1 g top v v := by
  have hok : okP g.pri top v := (H.isin v hv).1 h0
  rw [count_more (by rw [H.len]; exact hv), H.len]
  constructor
  · rintro (⟨w, hw, hne, e⟩ | h)
    · have h1 := (H.scc v w hv hw h0 (by rw [e]; exact h0)).1 e.symm
      rcases h1.1.head with rfl | ⟨t, h2, h3⟩
      · exact absurd rfl hne
      · exact ⟨t, h2, h3.trans h1.2⟩
    · exact ⟨v, ⟨h, hok⟩, .refl _⟩
  · rintro ⟨t, h1, h2⟩
    by_cases e : t = v
    · subst e; exact .inr h1.1
    · have ht := hrow v hv t h1.1
      have h3 : 0 ≤ of.getD t 0 := (H.isin t ht).2 h1.2
      exact .inl ⟨t, ht, e, (H.scc t v ht hv h3 h0).2 ⟨h2, Rch.one h1⟩⟩

/-- How many of the first i have each number. -/
def szs (of : List Int) (m i : Nat) : List Int := (List.range m).map fun c : Nat => (((of.take i).count (c : Int) : Nat) : Int)
theorem szs_len {of : List Int} {m i : Nat} : (szs of m i).length = m := by simp [szs]
theorem szs_zero {of : List Int} {m : Nat} : szs of m 0 = List.replicate m 0 := by
  refine List.ext_getElem (by simp [szs]) fun j h1 h2 => by simp [szs]
theorem szs_getD {of : List Int} {m i : Nat} {c : Int} (h0 : 0 ≤ c) (hc : c < m) : (szs of m i).getD c.toNat 0 = (((of.take i).count c : Nat) : Int) := by
  have h1 : c.toNat < m := by omega
  have h2 : ((c.toNat : Nat) : Int) = c := by omega
  simp [szs, List.getD_eq_getElem?_getD, h1, h2]
theorem szs_set {of : List Int} {m i : Nat} (hi : i < of.length) (h0 : 0 ≤ of.getD i 0) (hc : of.getD i 0 < m) : (szs of m i).set (of.getD i 0).toNat ((szs of m i).getD (of.getD i 0).toNat 0 + 1) = szs of m (i + 1) := by
  rw [szs_getD h0 hc]
  refine List.ext_getElem? fun j => ?_
  rw [List.getElem?_set]
  simp only [szs, List.getElem?_map, List.length_map, List.length_range]
  by_cases hj : j < m
  · rw [List.getElem?_range hj]
    simp only [Option.map_some]
    rw [take1 (d := 0) hi, List.count_append]
    by_cases hij : (of.getD i 0).toNat = j
    · rw [if_pos hij, if_pos (by omega)]
      have : of.getD i 0 = (j : Int) := by omega
      rw [this, List.count_singleton_self]; rfl
    · rw [if_neg hij]
      have : of.getD i 0 ≠ (j : Int) := by omega
      rw [List.count_singleton, if_neg (by simpa using this)]; rfl
  · rw [List.getElem?_eq_none (by simpa using hj)]
    by_cases hij : (of.getD i 0).toNat = j
    · omega
    · rw [if_neg hij]; rfl
theorem szs_keep {of : List Int} {m i : Nat} (hi : i < of.length) (h0 : of.getD i 0 < 0) : szs of m i = szs of m (i + 1) := by
  refine List.map_congr_left fun c hc => ?_
  rw [take1 (d := 0) hi, List.count_append, List.count_singleton, if_neg (by simp only [beq_iff_eq]; omega)]; rfl

open Classical in
/-- Which positions of a priority come again by a way on which none is greater. -/
noncomputable def circB (g : Gm) (top : Int) (v : Nat) : Bool := decide (g.pri.getD v 0 = top ∧ Rch1 g top v v)
open Classical in
theorem circB_iff {g : Gm} {top : Int} {v : Nat} : circB g top v = true ↔ g.pri.getD v 0 = top ∧ Rch1 g top v v := by
  unfold circB
  exact decide_eq_true_iff

end
section
open Go Pl

def RchA (x : List (List Int)) : Nat → Nat → Prop := Rch fun a b => b ∈ rws x a

/-- What holds while positions ahead are looked for. -/
structure WI (n : Nat) (x : List (List Int)) (G : Nat → Prop) (out : List Bool) (q : List Nat) (i : Nat) (dn : List Nat) : Prop where
  len : out.length = n
  nd : q.Nodup
  qb : ∀ u, u ∈ q → u < n
  iq : i ≤ q.length
  sq : ∀ u, u < n → (out.getD u false = true ↔ u ∈ q)
  gd : ∀ u, u < n → G u → u ∈ q
  rc : ∀ u, u ∈ q → ∃ w, w < n ∧ G w ∧ RchA x u w
  cl : ∀ t, t ∈ q.take i → ∀ u, u < n → t ∈ rws x u → u ∈ q
  cd : ∀ u, u ∈ dn → u ∈ q

structure WS where
  out : List Bool
  q : List Nat
  i : Nat
structure WJ where
  out : List Bool
  q : List Nat
  r : Nat

theorem RchA.cons {x : List (List Int)} {a b c : Nat} (h : b ∈ rws x a) (h2 : RchA x b c) : RchA x a c := Rch.trans (Rch.one h) h2

theorem WI_add {n : Nat} {x : List (List Int)} {G : Nat → Prop} {out : List Bool} {q : List Nat} {i t u : Nat} {dn : List Nat} (H : WI n x G out q i dn) (ht : q[i]? = some t) (hu : u < n) (hut : t ∈ rws x u) (ho : out.getD u false = false) :
    WI n x G (out.set u true) (q ++ [u]) i (dn ++ [u]) := by
  have hil : i < q.length := (List.getElem?_eq_some_iff.1 ht).1
  have hnq : u ∉ q := fun h => by rw [(H.sq u hu).2 h] at ho; cases ho
  have hul : u < out.length := by rw [H.len]; exact hu
  refine { len := by rw [List.length_set]; exact H.len, nd := ?_, qb := fun v hv => ?_, iq := by rw [List.length_append]; omega, sq := fun v hv => ?_, gd := fun v hv h => List.mem_append_left _ (H.gd v hv h), rc := fun v hv => ?_, cl := fun s hs v hv h => ?_, cd := fun v hv => ?_ }
  · rw [List.nodup_append]
    exact ⟨H.nd, List.pairwise_singleton _ _, fun a ha b hb e => by rw [List.mem_singleton.1 hb] at e; exact hnq (e ▸ ha)⟩
  · rcases List.mem_append.1 hv with h | h
    · exact H.qb v h
    · rw [List.mem_singleton.1 h]; exact hu
  · rw [getD_set hul, List.mem_append, List.mem_singleton]
    by_cases e : v = u
    · rw [if_pos e]; exact ⟨fun _ => .inr e, fun _ => rfl⟩
    · rw [if_neg e, H.sq v hv]; exact ⟨.inl, fun h => h.elim id fun h => absurd h e⟩
  · rcases List.mem_append.1 hv with h | h
    · exact H.rc v h
    · rw [List.mem_singleton.1 h]
      obtain ⟨w, h1, h2, h3⟩ := H.rc t (List.mem_of_getElem? ht)
      exact ⟨w, h1, h2, RchA.cons hut h3⟩
  · rw [List.take_append_of_le_length (by omega)] at hs
    exact List.mem_append_left _ (H.cl s hs v hv h)
  · rcases List.mem_append.1 hv with h | h
    · exact List.mem_append_left _ (H.cd v h)
    · exact List.mem_append_right _ h
theorem WI_skip {n : Nat} {x : List (List Int)} {G : Nat → Prop} {out : List Bool} {q : List Nat} {i u : Nat} {dn : List Nat} (H : WI n x G out q i dn) (hu : u < n) (ho : out.getD u false = true) : WI n x G out q i (dn ++ [u]) :=
  { H with cd := fun v hv => (List.mem_append.1 hv).elim (H.cd v) fun h => by rw [List.mem_singleton.1 h]; exact (H.sq u hu).1 ho }
theorem WI_end {n : Nat} {x : List (List Int)} {G : Nat → Prop} {out : List Bool} {q : List Nat} {i t : Nat} {dn : List Nat} (H : WI n x G out q i dn) (ht : q[i]? = some t) (ha : ∀ u, u < n → t ∈ rws x u → u ∈ dn) : WI n x G out q (i + 1) [] := by
  have hil : i < q.length := (List.getElem?_eq_some_iff.1 ht).1
  refine { H with iq := hil, cl := fun s hs v hv h => ?_, cd := fun v hv => absurd hv List.not_mem_nil }
  rw [List.take_add_one, ht] at hs
  rcases List.mem_append.1 hs with h1 | h1
  · exact H.cl s h1 v hv h
  · have e : s = t := by simpa using h1
    subst e
    exact H.cd v (ha v hv h)
theorem WI_done {n : Nat} {x : List (List Int)} {G : Nat → Prop} {out : List Bool} {q : List Nat} (H : WI n x G out q q.length []) (hrow : ∀ v, v < n → ∀ t, t ∈ rws x v → t < n) {u : Nat} (hu : u < n) :
    out.getD u false = true ↔ ∃ w, w < n ∧ G w ∧ RchA x u w := by
  rw [H.sq u hu]
  constructor
  · exact H.rc u
  · rintro ⟨w, hw, hG, hr⟩
    rw [show q.length = q.length from rfl] at H
    have hcl := H.cl
    rw [List.take_length] at hcl
    -- backwards along the way
    have hb : ∀ b, Rch (fun a b => b ∈ rws x a) u b → b < n → b ∈ q → u ∈ q := by
      intro b hb
      induction hb with
      | refl => exact fun _ h => h
      | step h e ih =>
        rename_i b c
        intro hc hq
        have hbn : b < n := by
          have hcl2 : ∀ a b, a < n → b ∈ rws x a → b < n := fun a b ha hb => hrow a ha b hb
          exact h.closed (C := fun v => v < n) hcl2 hu
        exact ih hbn (hcl c hq b hbn e)
    exact hb w hr hw (H.gd w hw hG)

theorem WI_begin {n : Nat} {x : List (List Int)} {G : List Bool} (hG : G.length = n) : WI n x (fun v => G.getD v false = true) ((List.range n).map fun v => G.getD v false) (kp G n) 0 [] := by
  refine { len := by simp, nd := List.nodup_range.filter _, qb := fun u h => kp_lt h, iq := Nat.zero_le _, sq := fun u hu => ?_, gd := fun u hu h => ?_, rc := fun u h => ⟨u, kp_lt h, (List.mem_filter.1 h).2, .refl _⟩, cl := fun t h => by simp at h, cd := fun v hv => absurd hv List.not_mem_nil }
  · have : ((List.range n).map fun v => G.getD v false).getD u false = G.getD u false := by simp [List.getD_eq_getElem?_getD, hu]
    rw [this]
    exact ⟨fun h => List.mem_filter.2 ⟨List.mem_range.2 hu, h⟩, fun h => (List.mem_filter.1 h).2⟩
  · exact List.mem_filter.2 ⟨List.mem_range.2 hu, h⟩

/-! Which positions come again, priority by priority -/
noncomputable def gdT (g : Gm) (pl : Int) : Nat → Nat → Bool
  | 0, _ => false
  | k + 1, v => gdT g pl k v || circB g (pl + 2 * (k : Int)) v
theorem gdT_iff {g : Gm} {pl : Int} {v : Nat} : ∀ {k : Nat}, gdT g pl k v = true ↔ ∃ j : Nat, j < k ∧ g.pri.getD v 0 = pl + 2 * (j : Int) ∧ Rch1 g (g.pri.getD v 0) v v
  | 0 => ⟨fun h => absurd h (by unfold gdT; exact Bool.false_ne_true), fun ⟨j, hj, _⟩ => absurd hj (Nat.not_lt_zero j)⟩
  | k + 1 => by
    rw [gdT, Bool.or_eq_true, gdT_iff, circB_iff]
    constructor
    · rintro (⟨j, h1, h2⟩ | ⟨h1, h2⟩)
      · exact ⟨j, by omega, h2⟩
      · exact ⟨k, by omega, h1, by rw [h1]; exact h2⟩
    · rintro ⟨j, h1, h2, h3⟩
      by_cases e : j = k
      · subst e; exact .inr ⟨h2, by rw [← h2]; exact h3⟩
      · exact .inl ⟨j, by omega, h2, h3⟩

/-- A position that comes again by a way whose greatest priority is its own and the player's. -/
def again (g : Gm) (pl : Int) (v : Nat) : Prop := g.pri.getD v 0 % 2 = pl ∧ Rch1 g (g.pri.getD v 0) v v
theorem gdT_end {g : Gm} {pl : Int} (hpl : pl = 0 ∨ pl = 1) {k : Nat} (hk : 60 < pl + 2 * (k : Int)) {v : Nat} (hv : 0 ≤ g.pri.getD v 0 ∧ g.pri.getD v 0 ≤ 60) : gdT g pl k v = true ↔ again g pl v := by
  rw [gdT_iff]
  unfold again
  constructor
  · rintro ⟨j, _, h1, h2⟩; exact ⟨by omega, h2⟩
  · rintro ⟨h1, h2⟩; exact ⟨((g.pri.getD v 0 - pl) / 2).toNat, by omega, by omega, h2⟩

/-- From where a player who chooses alone wins. -/
def alone (g : Gm) (pl : Int) (v : Nat) : Prop := ∃ w, w < g.own.length ∧ again g pl w ∧ RchA g.nxt v w
open Classical in
noncomputable def aloneL (g : Gm) (pl : Int) : List Bool := (List.range g.own.length).map fun v => decide (alone g pl v)
theorem aloneL_getD {g : Gm} {pl : Int} {v : Nat} (hv : v < g.own.length) : (aloneL g pl).getD v false = true ↔ alone g pl v := by
  simp [aloneL, List.getD_eq_getElem?_getD, hv]
theorem aloneL_eq {g : Gm} {pl : Int} {l : List Bool} (hl : l.length = g.own.length) (h : ∀ v, v < g.own.length → (l.getD v false = true ↔ alone g pl v)) : l = aloneL g pl := by
  refine List.ext_getElem (by simp [aloneL, hl]) fun j h1 h2 => ?_
  have h3 := h j (by omega)
  have h4 := aloneL_getD (g := g) (pl := pl) (v := j) (by omega)
  rw [List.getD_eq_getElem?_getD, List.getElem?_eq_getElem h1] at h3
  rw [List.getD_eq_getElem?_getD, List.getElem?_eq_getElem h2] at h4
  simp only [Option.getD_some] at h3 h4
  exact Bool.eq_iff_iff.2 (h3.trans h4.symm)

end
end Go.Proofs.Ytgminhedbeblpaa.Cal
