/- An operation as an item of its region: plain, a call, or guarded. -/
import Derived.Test.YtgminhedbeblpaaCal17
set_option linter.unusedVariables false
set_option linter.unusedSimpArgs false
namespace Go.Proofs.Ytgminhedbeblpaa.Cal
open Go

def Does (P : Program) (ro : Option Nat) (o : Oper) (get : Operand → AV) (val : AV) (rd : List (Nat × Blk)) (wr : List (Nat × Option Blk)) (kn : Option Nat) : Prop :=
  ∀ (n : Nat) (K Z : Nat → Prop) (ν : Nat → Value) (w : World) (a : Act) (μ : Nat → Bool) (rs : Rs), (∀ k, (ν k).oneCell' = true) → GoodRs K Z w ν μ rs → (∀ b, Z b → K b) → (∀ b, K b → b < w.heap.size) →
    (∀ x, x ∈ o.op.operands → R Z w (get x) ν true [a.eval x] ∧ men μ (get x) = true) → (∀ p, p ∈ rd → rs p.1 = some p.2) → (∀ k, kn = some k → μ k = false) →
    ∀ (next : Act → World → Prop) (Q : Exit → Act → World → Prop),
      (∀ (y : Value) (Z' : Nat → Prop) (ν' : Nat → Value) (w' : World), Step K Z w Z' w' → (∀ k, μ k = true → ν' k = ν k) → (∀ k, (ν' k).oneCell' = true) → GoodRs (un K Z') Z' w' ν' (addK μ kn) (updL rs wr) → R Z' w' val ν' true [y] → men (addK μ kn) val = true → (∀ b, Z' b → b < w'.heap.size) → next (a.put o.dst y) w') →
      o.uponIn (FF ro) n P a next Q ((o.semAt (FF ro).round a.eval).run P w)

section
variable {P : Program} {ro : Option Nat} {N : Nat} {ops : Array Oper}

theorem does_sem {o : Oper} {get : Operand → AV} {val : AV} {rd : List (Nat × Blk)} {wr : List (Nat × Option Blk)} {kn : Option Nat} (hnd : ∀ c, o.op ≠ .defer c) (hs : OpSem P o get val rd wr kn) : Does P ro o get val rd wr kn := by
  intro n K Z ν w a μ rs h1 hg hzk hkl hx hrd hkn next Q hnext
  rw [semAt_plain hnd]
  obtain ⟨y, w', ν', Z', hrun, hstep, hν, h1', hrs, hr, hm, hz⟩ := hs.sem K Z ν w a.eval μ rs h1 hg hzk hkl hx hrd hkn
  have hG := hnext y Z' ν' w' hstep hν h1' hrs hr hm hz
  rcases hrun with hrun | ⟨hrun, rfl⟩
  · rw [hrun]; exact hG
  · rw [hrun]; exact hG

theorem un_un {K Z : Nat → Prop} : un K Z = fun b => K b ∨ Z b := rfl

theorem men_one {μ : Nat → Bool} {u : AV} {kn : Nat} (hk : μ kn = true) (h : men isOne u = true) : men μ (ren (fun _ => kn) u) = true := by
  induction u with
  | own k => exact hk
  | adr k _ _ _ => exact hk
  | yld k => exact hk
  | agg l ih => exact ih h
  | tup l ih => exact ih h
  | fn f c ih => exact ih h
  | whn g u ih => cases g with
    | true => exact ih h
    | false => rfl
  | cons a b ih1 ih2 => simp only [men, Bool.and_eq_true] at h; simp only [men, ren, ih1 h.1, ih2 h.2]; rfl
  | _ => rfl
theorem men_ren0 {μ : Nat → Bool} {u : AV} {kn : Nat} (h : men noK u = true) : men μ (ren (fun _ => kn) u) = true := by
  induction u with
  | own k => cases h
  | adr k _ _ _ => cases h
  | yld k => cases h
  | agg l ih => exact ih h
  | tup l ih => exact ih h
  | fn f c ih => exact ih h
  | whn g u ih => cases g with
    | true => exact ih h
    | false => rfl
  | cons a b ih1 ih2 => simp only [men, Bool.and_eq_true] at h; simp only [men, ren, ih1 h.1, ih2 h.2]; rfl
  | _ => rfl

theorem menB_free {μ : Nat → Bool} {B : Blk} (h : freeB B = true) (hp : freeP B) : menB μ B := by cases B <;> first | exact trivial | exact fun j hj => men_free (hp j hj) | cases h
theorem sat_free {Z : Nat → Prop} {w : World} {ν ν' : Nat → Value} {x : Value} {F : Nat → Prop} {B : Blk} (hf : freeB B = true) (hp : freeP B) (h : sat Z w ν x F B) : sat Z w ν' x F B := by
  cases B with
  | avs sz n f => exact row_mono (fun _ _ => rfl) (fun j _ hj h => R_free (hp j hj) h) h
  | rowsR xss => exact row_mono (fun _ _ => rfl) (fun _ _ _ h => R_free rfl h) h
  | _ => first | exact h | cases hf

/-- A call of a function of the program. -/
theorem does_call {o : Oper} {get : Operand → AV} {x : Operand} {xs : List Operand} {ts : Array TypeId} {f kn : Nat} {caps a' : AV} {S : Spec} {r : SR} {rd : List (Nat × Blk)} {r' : EvR} {l : List (Nat × Option Blk)}
    (ho : o.op = .call ⟨.value x, xs.toArray, ts⟩) (hf : get x = .fn f caps) (hpc : properL caps = true) (hv : viewA l (appL (ofL get xs) caps) = some (a', rd)) (hS : FSpec P f S) (hr : S (lsOf a') = some r) (hof : ofSR kn rd r = some r') (hob : r.ob) :
    Does P ro o get r'.val rd r'.wr r'.kn := by
  have hpa : properL a' = true := by
    have hp : properL (appL (ofL get xs) caps) = true := by
      refine properL_app ?_ hpc
      clear hv ho
      induction xs with
      | nil => rfl
      | cons x xs ih => exact ih
    have pv : ∀ {u u' : AV} {rd : List (Nat × Blk)}, properL u = true → viewA l u = some (u', rd) → properL u' = true := by
      intro u
      induction u with
      | cons a b _ ih =>
        intro u' rd hp h
        simp only [viewA] at h
        split at h
        · split at h
          · rename_i b' rd2 hb
            simp only [Option.some.injEq, Prod.mk.injEq] at h
            obtain ⟨rfl, rfl⟩ := h
            show properL b' = true
            exact ih hp hb
          · cases h
        · cases h
      | nil => intro u' rd _ h; simp only [viewA, Option.some.injEq, Prod.mk.injEq] at h; obtain ⟨rfl, rfl⟩ := h; rfl
      | _ => intro u' rd hp; cases hp
    exact pv hp hv
  intro n K Z ν w a μ rs h1 hg hzk hkl hx hrd hkn next Q hnext
  obtain ⟨⟨fn, hfn, hname, hbody⟩, hS⟩ := hS
  obtain ⟨rf, mf⟩ := hx x (by rw [ho]; simp [Op.operands, Call.operands])
  rw [hf] at rf
  obtain ⟨cv, ecv, rcv⟩ := rf
  have ecv := one1 ecv
  have hargs : R Z w (ofL get xs) ν true (xs.map a.eval) ∧ men μ (ofL get xs) = true := ofL_ok xs fun y hy => hx y (by rw [ho]; simp [Op.operands, Call.operands]; exact .inr hy)
  have hpl : properL (ofL get xs) = true := by
    clear hv ho hargs hx
    induction xs with
    | nil => rfl
    | cons x xs ih => exact ih
  have hall : R Z w (appL (ofL get xs) caps) ν true (xs.map a.eval ++ cv) := R_app hpl hargs.1 rcv
  obtain ⟨Ft, hF⟩ := id hg
  let Fb : Nat → Prop := fun b => ∃ p, p ∈ rd ∧ Ft p.1 b
  let Kc : Nat → Prop := fun b => K b ∨ ∃ k B, rs k = some B ∧ Ft k b
  let Zc : Nat → Prop := fun b => Z b ∨ Fb b
  have hFb : ∀ b, Fb b → Kc b := fun b ⟨p, hp, hb⟩ => .inr ⟨p.1, p.2, hrd p hp, hb⟩
  have hKc : ∀ b, Kc b → b < w.heap.size := fun b hb => hb.elim (hkl b) fun ⟨k, B, hk, hb⟩ => ((hF k B hk).2.2.2.1 b hb).2
  have hFK : ∀ b, Fb b → ¬ K b := fun b ⟨p, hp, hb⟩ => ((hF p.1 p.2 (hrd p hp)).2.2.2.1 b hb).1
  obtain ⟨va, ma, _⟩ := view_ok (Zc := Zc) (rs := rs) (Ft := Ft) (fun b hb => .inl hb) (fun k b hk => (hF k b hk).2.2.1) hv hrd (fun p hp y hy => .inr ⟨p, hp, hy⟩) hall
  have hcall := hS (lsOf a') r hr hob (by rw [mkL_lsOf hpa]; exact ma) Kc Zc nu0 w (xs.map a.eval ++ cv).toArray (fun _ => rfl) (by rw [mkL_lsOf hpa]; exact va) (by rw [mkL_lsOf hpa]; exact men_free ma) ⟨fun _ _ => False, fun k b hk => by cases hk⟩
    (fun b hb => hb.elim (fun h => .inl (hzk b h)) (hFb b)) hKc
  have hsem : (o.semAt (FF ro).round a.eval).run P w = .ok (.enter f (xs.map a.eval ++ cv).toArray) w := by
    rw [semAt_plain (by rw [ho]; intro c hc; cases hc)]
    simp [execOp, ho, resolve, ecv, Deferred.ofValue, invoke, callFunc, hfn, Sem.run_bind, Result.andThen, Sem.run, program]
    have hname' : ¬ fn.name = "runtime.NumGoroutine" := by simpa using hname
    cases hb : fn.body with
    | none => rw [hb] at hbody; cases hbody
    | some c => simp [hname', hb, Sem.run]
  rw [hsem]
  refine ⟨(fun h => by cases h), CallsIn.mono (ff_calls hcall) ?_⟩
  rintro e w' ⟨y, Z', ν', v, μ', rs', rfl, hstep, h1', _, _, hr', hm', hrs', hzs, rfl, hw⟩
  let Zn : Nat → Prop := fun b => Z' b ∧ ¬ Fb b
  have hold : ∀ b, Kc b → w'.heap[b]? = w.heap[b]? := hstep.ext.block
  have hZn : ∀ b, Zn b → Z b ∨ ¬ Kc b := fun b ⟨h, hn⟩ => by
    rcases hstep.new b h with (h | h) | h
    · exact .inl h
    · exact absurd h hn
    · exact .inr h
  have hst : Step K Z w Zn w' := ⟨⟨hstep.ext.os, hstep.ext.tape, hstep.ext.output, hstep.ext.size, fun b hb => hold b (.inl hb)⟩, fun b hb => ⟨hstep.le b (.inl hb), fun hf => hFK b hf (hzk b hb)⟩, fun b hb => (hZn b hb).imp id fun h hk => h (.inl hk)⟩
  have hZsame : rd = [] → Zn = Z' := fun h0 => by
    funext b
    simp only [Zn, eq_iff_iff, and_iff_left_iff_imp]
    rintro _ ⟨p, hp, _⟩
    rw [h0] at hp; cases hp
  have hfree : ∀ {k B}, rs k = some B → ∀ b, Ft k b → ¬ un K Zn b ∧ b < w'.heap.size := fun {k B} hk b hb => by
    refine ⟨?_, Nat.lt_of_lt_of_le ((hF k B hk).2.2.2.1 b hb).2 hstep.ext.size⟩
    rintro (h | h)
    · exact ((hF k B hk).2.2.2.1 b hb).1 h
    · rcases hZn b h with h2 | h2
      · exact ((hF k B hk).2.2.2.1 b hb).1 (hzk b h2)
      · exact h2 (.inr ⟨k, B, hk, hb⟩)
  unfold ofSR at hof
  split at hof
  · rename_i hwr
    split at hof
    · rename_i hc
      simp only [Option.some.injEq] at hof
      subst hof
      simp only [Bool.and_eq_true, Bool.or_eq_true, List.isEmpty_iff] at hc
      obtain ⟨c1, c2⟩ := hc
      refine hnext y Zn ν w' hst (fun _ _ => rfl) h1 ?_ ?_ (men_free c1) (fun b hb => hzs b hb.1)
      · refine ⟨Ft, fun k B hk => ?_⟩
        obtain ⟨g1, g2, g3, g4, g5⟩ := hF k B hk
        exact ⟨g1, g2, sat_mono (fun b hb => hst.le b hb) (fun b hb => hold b (.inl (hzk b hb))) (fun b hb => hold b (.inr ⟨k, B, hk, hb⟩)) g3, hfree hk, g5⟩
      · rcases c2 with c2 | c2
        · rw [hZsame c2]; exact R_free c1 hr'
        · exact R_zfree c2 (R_free c1 hr')
    · cases hof
  · rename_i B hwr
    split at hof
    · rename_i hc
      simp only [Option.some.injEq] at hof
      subst hof
      simp only [Bool.and_eq_true, Bool.or_eq_true, List.isEmpty_iff] at hc
      obtain ⟨⟨c1, c2⟩, c3⟩ := hc
      have hk2 := hkn kn rfl
      obtain ⟨hw1, hw2, hw3⟩ := hw B hwr
      obtain ⟨Fn, hFn⟩ := hrs'
      obtain ⟨f1, f2, f3, f4, f5⟩ := hFn 0 B hw2
      refine hnext y Zn (upN ν kn (ν' 0)) w' hst (upN_ext hk2) (upN_one h1 (h1' 0)) ?_ ?_ (men_one addK_new c1) (fun b hb => hzs b hb.1)
      · have hnew : ∀ k, k ≠ kn → updL rs [(kn, some B)] k = rs k := fun k hk => by
          have : lko [(kn, some B)] k = none := lko_none (by intro p hp; simp at hp; subst hp; exact Ne.symm hk)
          simp only [updL, this]
        have hnew2 : updL rs [(kn, some B)] kn = some B := by simp [updL, lko, Nat.beq_refl]
        refine ⟨fun k => if k = kn then Fn 0 else Ft k, fun k B' hk => ?_⟩
        by_cases hkk : k = kn
        · subst hkk
          rw [hnew2] at hk
          obtain rfl : B = B' := Option.some.inj hk
          dsimp only
          rw [if_pos rfl, upN_same]
          refine ⟨addK_new, menB_free c2 hw3, ?_, fun b hb => ⟨?_, (f4 b hb).2⟩, fun k' b' hne hk' b hb => ?_⟩
          · rcases c3 with c3 | c3
            · rw [hZsame c3]; exact sat_free c2 hw3 f3
            · exact sat_zfree c3.2 (sat_free c2 hw3 f3)
          · rintro (h | h)
            · exact (f4 b hb).1 (.inl (.inl h))
            · exact (f4 b hb).1 (.inr h.1)
          · rw [if_neg (Ne.symm hne)]
            rw [hnew k' (Ne.symm hne)] at hk'
            exact fun h => (f4 b hb).1 (.inl (.inr ⟨k', b', hk', h⟩))
        · rw [hnew k hkk] at hk
          obtain ⟨g1, g2, g3, g4, g5⟩ := hF k B' hk
          dsimp only
          rw [if_neg hkk, upN_other hkk]
          refine ⟨addK_le k g1, menB_le addK_le g2, sat_mono (fun b hb => hst.le b hb) (fun b hb => hold b (.inl (hzk b hb))) (fun b hb => hold b (.inr ⟨k, B', hk, hb⟩)) (sat_nu (upN_ext hk2) g2 g3), hfree hk, fun k' b' hne hk' b hb => ?_⟩
          by_cases hk3 : k' = kn
          · subst hk3
            rw [if_pos rfl]
            exact fun h => (f4 b h).1 (.inl (.inr ⟨k, B', hk, hb⟩))
          · rw [if_neg hk3]
            rw [hnew k' hk3] at hk'
            exact g5 k' b' hne hk' b hb
      · rw [R_ren]
        have hn : R Z' w' r.val (fun _ => upN ν kn (ν' 0) kn) true [y] := R_nu (μ := isOne) (fun k hk => by
          have := Nat.eq_of_beq_eq_true hk
          subst this
          rw [upN_same]) c1 hr'
        rcases c3 with c3 | c3
        · rw [hZsame c3]; exact hn
        · exact R_zfree c3.1 hn
    · cases hof
end

end Go.Proofs.Ytgminhedbeblpaa.Cal
