/- Own texts of the proof, merged, in order. -/
import Derived.RangeFuncIn
import Derived.Test.YtgminhedbeblpaaS18
set_option linter.unusedVariables false
set_option linter.unusedSimpArgs false
namespace Go.Proofs.Ytgminhedbeblpaa.Cal
open Go
section
variable {P : Program} {ro : Option Nat} {N κ : Nat} {tb : Nat → Option TI}
/-- What a caller hands over and gets back, around whatever is called. -/
theorem call_frame {s : CS} {kk : List Nat} {rin : List (Nat × Option Blk)} {Q0 : GR → Prop} {Q : Exit → St → Prop} {dst : Option Nat} (hd' : ∀ d, dst = some d → d < N) (hkk : kkOK s.m kk = true) (hκ : Nat.ble κ s.m = true)
    (hrin : ∀ j B, lkr rin j = some B → j < kk.length ∧ menB (ltK kk.length) B ∧ lkr s.rs (rhoC kk s.m j) = some (renB (rhoC kk s.m) B))
    (next : ∀ g, Q0 g → kk.length ≤ g.m → Q .normal (CS.st ⟨s.m + (g.m - kk.length), putE dst (ren (rhoC kk s.m) g.val) s.env, outR kk s.m g.rs s.rs, s.ms⟩))
    {K Z : Nat → Prop} {w : World} {ν : Nat → Value} {a : Act} (hg : Good K Z N w ν s.st a) :
    ∃ Kc : Nat → Prop, GoodRs Kc Z w (fun j => ν (rhoC kk s.m j)) (ltK kk.length) (lkr rin) ∧ (∀ b, Z b → Kc b) ∧ (∀ b, Kc b → b < w.heap.size) ∧
      ∀ (y : Value) (w' : World) (Z' : Nat → Prop) (ν' : Nat → Value) (g : GR), Step Kc Z w Z' w' → (∀ k, (ν' k).oneCell' = true) → (∀ k, k < kk.length → ν' k = ν (rhoC kk s.m k)) → R Z' w' g.val ν' true [y] → men (ltK g.m) g.val = true →
        GoodRs (un Kc Z') Z' w' ν' (ltK g.m) (lkr g.rs) → (∀ b, Z' b → b < w'.heap.size) → Q0 g → kk.length ≤ g.m → Post N κ K Z w ν Q .normal (a.put dst y) w' := by
  obtain ⟨Ft, hF⟩ := id hg.rs
  have hF' : ∀ k B, lkr s.rs k = some B → k < s.m := fun k B hk => by
    have := (hF k B hk).1
    rwa [show (s.st).mu k = Nat.blt k s.m from rfl, Nat.blt_eq] at this
  let ρ := rhoC kk s.m
  have hρ : ∀ i j, ρ i = ρ j → i = j := fun i j h => rhoC_inj hkk h
  let Kc : Nat → Prop := fun b => K b ∨ ∃ k B, k ∉ kk ∧ lkr s.rs k = some B ∧ Ft k b
  have hKc : ∀ b, Kc b → b < w.heap.size := fun b hb => hb.elim (hg.kl b) fun ⟨k, B, _, hk, hb⟩ => ((hF k B hk).2.2.2.1 b hb).2
  refine ⟨Kc,
      ⟨fun j => Ft (ρ j), fun j B hj => by
        obtain ⟨r1, r2, r3⟩ := hrin j B hj
        obtain ⟨g1, g2, g3, g4, g5⟩ := hF _ _ r3
        refine ⟨by show Nat.blt j _ = true; rw [Nat.blt_eq]; exact r1, r2, sat_ren.1 g3, fun b hb => ⟨?_, (g4 b hb).2⟩, fun j' B' hne hj' => ?_⟩
        · rintro (h | ⟨k, B', hk, hkr, h⟩)
          · exact (g4 b hb).1 h
          · exact g5 k B' (fun e => hk (e ▸ (rhoC_lt r1 hkk).1)) hkr b hb h
        · obtain ⟨q1, q2, q3⟩ := hrin j' B' hj'
          exact g5 _ _ (fun e => hne (hρ _ _ e)) q3⟩,
    fun b hb => .inl (hg.zk b hb), hKc, ?_⟩
  intro y w' Z' ν' g hstep h1' hν hr' hm' ⟨Fn, hFn⟩ hzs hq hle
  let νn : Nat → Value := fun k => if k < s.m then ν k else ν' (k - s.m + kk.length)
  have hνρ : ∀ j, j < g.m → νn (ρ j) = ν' j := fun j hj => by
    show (if ρ j < s.m then _ else _) = _
    rcases Nat.lt_or_ge j kk.length with h | h
    · rw [if_pos (rhoC_lt h hkk).2, hν j h]
    · rw [show ρ j = s.m + (j - kk.length) from rhoC_ge h, if_neg (by omega)]
      congr 1; omega
  have hold : ∀ b, Kc b → w'.heap[b]? = w.heap[b]? := hstep.ext.block
  have hst : Step K Z w Z' w' := ⟨⟨hstep.ext.os, hstep.ext.tape, hstep.ext.output, hstep.ext.size, fun b hb => hold b (.inl hb)⟩, hstep.le, fun b hb => (hstep.new b hb).imp id fun h hk => h (.inl hk)⟩
  have hνold : ∀ k, ltK s.m k = true → νn k = ν k := fun k hk => by
    rw [ltK, Nat.blt_eq] at hk
    exact if_pos hk
  have hR' : R Z' w' (ren ρ g.val) νn true [y] := R_ren.2 (R_nu (fun k hk => hνρ k (by rw [ltK, Nat.blt_eq] at hk; exact hk)) hm' hr')
  have hgood : Good (un K Z') Z' N w' νn ⟨ltK (s.m + (g.m - kk.length)), lke s.env, lkr (outR kk s.m g.rs s.rs), s.ms⟩ a := by
    have hwide : ∀ k, ltK s.m k = true → ltK (s.m + (g.m - kk.length)) k = true := fun k hk => by
      simp only [ltK, Nat.blt_eq] at hk ⊢; omega
    refine ⟨hg.size, fun k => ?_, fun t => ⟨men_le hwide (hg.env t).1, R_nu hνold (hg.env t).1 (R_mono hst.le (fun b hb => hst.ext.block b (hg.zk b hb)) (hg.env t).2)⟩, ?_, fun b hb => .inr hb, fun b hb => ?_, ?_, fun k hk => hwide k (hg.ml k hk)⟩
    · show (if k < s.m then _ else _ : Value).oneCell' = true
      split
      · exact hg.one k
      · exact h1' _
    · refine ⟨fun k b => (∃ j B, ρ j = k ∧ lkr g.rs j = some B ∧ Fn j b) ∨ (k ∉ kk ∧ (∃ B, lkr s.rs k = some B) ∧ Ft k b), fun k B hk => ?_⟩
      have hcase : ∀ {k B}, lkr (outR kk s.m g.rs s.rs) k = some B → (∃ j B0, ρ j = k ∧ lkr g.rs j = some B0 ∧ B = renB ρ B0) ∨ ((∀ j B0, ρ j = k → lkr g.rs j ≠ some B0) ∧ k ∉ kk ∧ lkr s.rs k = some B) := by
        intro k B hk
        unfold lkr outR at hk
        rw [lko_app] at hk
        rcases lko_renR hρ (g := g.rs) (k := k) with ⟨j, e, x, h1, h2⟩ | ⟨h1, h2⟩
        · rw [h2] at hk
          dsimp only at hk
          cases x with
          | none => cases hk
          | some B0 =>
            simp only [Option.map_some, Option.some.injEq] at hk
            exact .inl ⟨j, B0, e, by unfold lkr; rw [h1], hk.symm⟩
        · rw [h1] at hk
          dsimp only at hk
          obtain ⟨d1, d2⟩ := lkr_dels (kk := kk) (l := s.rs) (k := k) (B := B) hk
          refine .inr ⟨fun j B0 e h => ?_, d1, d2⟩
          unfold lkr at h
          rw [h2 j e] at h; cases h
      have hnewF : ∀ {j B0}, lkr g.rs j = some B0 → ∀ b, ((∃ j' B, ρ j' = ρ j ∧ lkr g.rs j' = some B ∧ Fn j' b) ∨ (ρ j ∉ kk ∧ (∃ B, lkr s.rs (ρ j) = some B) ∧ Ft (ρ j) b)) ↔ Fn j b := by
        intro j B0 hj b
        constructor
        · rintro (⟨j', B, e, _, h⟩ | ⟨h1, ⟨B, h2⟩, _⟩)
          · rw [hρ _ _ e] at h; exact h
          · exfalso
            rcases Nat.lt_or_ge j kk.length with h | h
            · exact h1 (rhoC_lt h hkk).1
            · have := hF' _ _ h2
              rw [show ρ j = s.m + (j - kk.length) from rhoC_ge h] at this
              omega
        · exact fun h => .inl ⟨j, B0, rfl, hj, h⟩
      have holdF : ∀ {k B}, (∀ j B0, ρ j = k → lkr g.rs j ≠ some B0) → k ∉ kk → lkr s.rs k = some B → ∀ b, ((∃ j' B, ρ j' = k ∧ lkr g.rs j' = some B ∧ Fn j' b) ∨ (k ∉ kk ∧ (∃ B, lkr s.rs k = some B) ∧ Ft k b)) ↔ Ft k b := by
        intro k B h1 h2 h3 b
        constructor
        · rintro (⟨j', B, e, h, _⟩ | ⟨_, _, h⟩)
          · exact absurd h (h1 j' B e)
          · exact h
        · exact fun h => .inr ⟨h2, ⟨B, h3⟩, h⟩
      rcases hcase hk with ⟨j, B0, rfl, hj, rfl⟩ | ⟨c1, c2, c3⟩
      · obtain ⟨f1, f2, f3, f4, f5⟩ := hFn j B0 hj
        have hjm : j < g.m := by rw [ltK, Nat.blt_eq] at f1; exact f1
        have hFe := funext fun b => propext (hnewF hj b)
        refine ⟨men_rhoC hkk hle j f1, menB_renK (men_rhoC hkk hle) f2, ?_, fun b hb => ⟨?_, (f4 b ((hnewF hj b).1 hb)).2⟩, fun k' B' hne hk' b hb => ?_⟩
        · dsimp only
          rw [hFe, hνρ j hjm]
          exact sat_ren.2 (sat_nu (fun k hk => hνρ k (by rw [ltK, Nat.blt_eq] at hk; exact hk)) f2 f3)
        · have := (f4 b ((hnewF hj b).1 hb)).1
          rintro (h | h)
          · exact this (.inl (.inl h))
          · exact this (.inr h)
        · have hb := (hnewF hj b).1 hb
          rcases hcase hk' with ⟨j', B0', rfl, hj', rfl⟩ | ⟨c1, c2, c3⟩
          · exact fun h => f5 j' B0' (fun e => hne (by rw [e])) hj' b hb ((hnewF hj' b).1 h)
          · exact fun h => (f4 b hb).1 (.inl (.inr ⟨k', B', c2, c3, (holdF c1 c2 c3 b).1 h⟩))
      · obtain ⟨g1, g2, g3, g4, g5⟩ := hF k B c3
        have hFe := funext fun b => propext (holdF c1 c2 c3 b)
        have hnz : ∀ b, Ft k b → ¬ un K Z' b := fun b hb => by
          rintro (h | h)
          · exact (g4 b hb).1 h
          · rcases hstep.new b h with h2 | h2
            · exact (g4 b hb).1 (hg.zk b h2)
            · exact h2 (.inr ⟨k, B, c2, c3, hb⟩)
        refine ⟨hwide k g1, menB_le hwide g2, ?_, fun b hb => ⟨hnz b ((holdF c1 c2 c3 b).1 hb), Nat.lt_of_lt_of_le (g4 b ((holdF c1 c2 c3 b).1 hb)).2 hstep.ext.size⟩, fun k' B' hne hk' b hb => ?_⟩
        · dsimp only
          rw [hFe, hνold k g1]
          exact sat_nu hνold g2 (sat_mono hst.le (fun b hb => hst.ext.block b (hg.zk b hb)) (fun b hb => hold b (.inr ⟨k, B, c2, c3, hb⟩)) g3)
        · have hb := (holdF c1 c2 c3 b).1 hb
          rcases hcase hk' with ⟨j', B0', rfl, hj', rfl⟩ | ⟨d1, d2, d3⟩
          · exact fun h => ((hFn j' B0' hj').2.2.2.1 b ((hnewF hj' b).1 h)).1 (.inl (.inr ⟨k, B, c2, c3, hb⟩))
          · exact fun h => g5 k' B' hne d3 b hb ((holdF d1 d2 d3 b).1 h)
    · rcases hb with h | h
      · exact Nat.lt_of_lt_of_le (hg.kl b h) hst.ext.size
      · exact hzs b h
    · rw [hg.ds]
      exact List.map_congr_left fun k hk => by rw [hνold k (hg.ml k hk)]
  refine ⟨Z', νn, _, hst, fun k hk => hνold k (by rw [ltK, Nat.blt_eq]; have := Nat.le_of_ble_eq_true hκ; omega), ?_, next g hq hle⟩
  have := Good.setd hgood hd' hR' (men_renK (men_rhoC hkk hle) hm')
  rw [show CS.st ⟨s.m + (g.m - kk.length), putE dst (ren (rhoC kk s.m) g.val) s.env, outR kk s.m g.rs s.rs, s.ms⟩ = ⟨ltK (s.m + (g.m - kk.length)), lke (putE dst (ren (rhoC kk s.m) g.val) s.env), lkr (outR kk s.m g.rs s.rs), s.ms⟩ from rfl, putE_lke]
  exact this
/-- What a call of yield comes to: the marker of its loop lies under key 0. -/
def YCall (P : Program) (args : List AV) (rin : List (Nat × Option Blk)) (κ : Nat) (Q : GR → Prop) : Prop :=
  ∀ (n : Nat) (K Z : Nat → Prop) (ν : Nat → Value) (w : World) (vals : Array Value) (l : Nat), (∀ k, (ν k).oneCell' = true) → R Z w (mkL args) ν true vals.toList → GoodRs K Z w ν (ltK κ) (lkr rin) → (∀ b, Z b → K b) → (∀ b, K b → b < w.heap.size) → ν 0 = .map (some l) →
    ∃ (f : FuncId) (tmps : Array Value) (assign body : Code), (Instr.yield l vals).run P w = .ok (.round l f tmps assign body) w ∧ RoundIn (FF none) n P l f tmps assign body w fun e w' => ∃ (y : Value) (Z' : Nat → Prop) (ν' : Nat → Value) (g : GR),
      e = .returned y ∧ Step K Z w Z' w' ∧ (∀ k, (ν' k).oneCell' = true) ∧ (∀ k, k < κ → ν' k = ν k) ∧ R Z' w' g.val ν' true [y] ∧ men (ltK g.m) g.val = true ∧ GoodRs (un K Z') Z' w' ν' (ltK g.m) (lkr g.rs) ∧ (∀ b, Z' b → b < w'.heap.size) ∧ Q g ∧ κ ≤ g.m
theorem awpL_yield {o : Oper} {x : Operand} {xs : List Operand} {ts : Array TypeId} {ky m : Nat} {env : List (Nat × AV)} {l : List (Nat × Option Blk)} {ms : List Nat} (kk : List Nat) {args : List AV} {rin : List (Nat × Option Blk)} {Q0 : GR → Prop} {Q : Exit → St → Prop}
    (hS : YCall P args rin kk.length Q0)
    (ho : o.op = .call ⟨.value x, xs.toArray, ts⟩) (hgd : o.guard.isNone = true) (hd : dstOK N [o] = true) (hf : opv (lke env) x = .yld ky) (hky : rhoC kk m 0 = ky)
    (hargs : ofL (opv (lke env)) xs = ren (rhoC kk m) (mkL args)) (hkk : kkOK m kk = true) (hκ : Nat.ble κ m = true)
    (hrin : rinR kk m l rin)
    (next : ∀ gm gv gr, Q0 ⟨gm, gv, gr⟩ → ∀ m' e' l', (m + (gm - kk.length) = m' ∧ putE o.dst (ren (rhoC kk m) gv) env = e' ∧ outR kk m gr l = l') → Q .normal (CS.st ⟨m', e', l', ms⟩)) : awpL P ro N κ [o] (CS.st ⟨m, env, l, ms⟩) Q := by
  intro n K Z ν w a hg
  have hw : Region.wanted o (yielded #[] a.tmps) = true := wanted_none hgd _
  simp only [wpListIn, hw, if_true]
  have hev : ∀ y : Operand, R Z w (opv (lke env) y) ν true [a.eval y] ∧ men (ltK m) (opv (lke env) y) = true := fun y => ⟨opv_R hg y, opv_men hg y⟩
  have rf := (hev x).1
  rw [hf] at rf
  obtain ⟨lp, hlp, ecv⟩ := rf
  have ecv := one1 ecv
  have hargs2 : R Z w (ofL (opv (lke env)) xs) ν true (xs.map a.eval) ∧ men (ltK m) (ofL (opv (lke env)) xs) = true := ofL_ok xs fun y _ => hev y
  have hall := hargs2.1
  rw [hargs] at hall
  have hall := R_ren.1 hall
  have hd' : ∀ d, o.dst = some d → d < N := fun d hd2 => by
    simp [dstOK, hd2] at hd; exact hd
  obtain ⟨Kc, h1, h2, h3, h4⟩ := call_frame (s := ⟨m, env, l, ms⟩) (kk := kk) (Q := Q) hd' hkk hκ (fun j B hj => by
    obtain ⟨h1, h2, h3⟩ := rinR_mem hrin (mem_keysOf hj).2
    rw [Nat.blt_eq] at h1
    exact ⟨h1, h2, h3⟩) (fun g hg hle => next g.m g.val g.rs hg _ _ _ ⟨rfl, rfl, rfl⟩) hg
  obtain ⟨f, tmps, assign, body, hrun, hround⟩ := hS (n - 1) Kc Z (fun j => ν (rhoC kk m j)) w (xs.map a.eval).toArray lp (fun j => hg.one _) (by exact hall) h1 h2 h3 (by show ν (rhoC kk m 0) = _; rw [hky]; exact hlp)
  have hsem : (o.semAt (FF ro).round a.eval).run P w = .ok (.round lp f tmps assign body) w := by
    rw [semAt_plain (by rw [ho]; intro c hc; cases hc)]
    simp [execOp, ho, resolve, ecv, Deferred.ofValue, invoke, hrun, Sem.run_bind, Result.andThen, Sem.run]
  refine ⟨fun f hf => trivial, ?_⟩
  rw [hsem]
  refine ⟨(fun h => by cases h), RoundIn.mono hround ?_⟩
  rintro e w' ⟨y, Z', ν', g, rfl, c1, c2, c3, c4, c5, c6, c7, c8, c9⟩
  exact h4 y w' Z' ν' g c1 c2 c3 c4 c5 c6 c7 c8 c9
end
end Go.Proofs.Ytgminhedbeblpaa.Cal
