/- A function's contract as a table, from its body. -/
import Derived.Test.YtgminhedbeblpaaCal23
set_option linter.unusedVariables false
set_option linter.unusedSimpArgs false
namespace Go.Proofs.Ytgminhedbeblpaa.Cal
open Go

section
variable {P : Program} {tb : Nat → Option TI}

/-- What an abstract value says of lengths. -/
def lenP : AV → Prop
  | .roI xs => xs.length ≤ lim
  | .roB xs => xs.length ≤ lim
  | .roII xs => xs.length ≤ lim ∧ ∀ j, j < xs.length → (xs.getD j []).length ≤ lim
  | .ro _ n f => n ≤ lim ∧ ∀ j, j < n → lenP (f j)
  | .rop u => lenP u
  | .agg l => lenP l
  | .tup l => lenP l
  | .cons h t => lenP h ∧ lenP t
  | .fn _ c => lenP c
  | _ => True

theorem R_lenP {Z : Nat → Prop} {w : World} : ∀ {u : AV} {ν : Nat → Value} {m : Bool} {cs : List Value}, R Z w u ν m cs → lenP u := by
  intro u
  induction u with
  | roI xs => intro ν m cs h; obtain ⟨A, cap, e, h1, h2, _⟩ := h; exact h2
  | roB xs => intro ν m cs h; obtain ⟨A, cap, e, h1, h2, _⟩ := h; exact h2
  | roII xs =>
    intro ν m cs h
    obtain ⟨A, cap, e, h1, h2, h3⟩ := h
    refine ⟨h2, fun j hj => ?_⟩
    obtain ⟨b, o, _, _, hc⟩ := h3 (by omega)
    obtain ⟨es, ⟨_, _, _, _, g2, _⟩, _⟩ := hc j hj
    exact g2
  | ro sz n f ih =>
    intro ν m cs h
    obtain ⟨A, cap, e, h1, h2, h3⟩ := h
    refine ⟨h2, fun j hj => ?_⟩
    obtain ⟨b, o, _, _, hc⟩ := h3 (by omega)
    obtain ⟨es, ⟨_, g⟩, _⟩ := hc j hj
    exact ih j g
  | rop u ih => intro ν m cs h; obtain ⟨b, o, _, _, _, es, r, _⟩ := h; exact ih r
  | agg l ih => intro ν m cs h; cases m with
    | true => obtain ⟨es, e, r⟩ := h; exact ih r
    | false => exact ih (m := true) h
  | tup l ih => intro ν m cs h; obtain ⟨es, e, r⟩ := h; exact ih r
  | cons a b ih1 ih2 => intro ν m cs h; obtain ⟨v, vs, e, r1, r2⟩ := h; exact ⟨ih1 r1, ih2 r2⟩
  | fn f c ih => intro ν m cs h; obtain ⟨vs, e, r⟩ := h; exact ih r
  | _ => intro ν m cs h; trivial

theorem row_lim {w : World} {x : Value} {sz n : Nat} {g : Nat → List Value → Prop} {F : Nat → Prop} (h : row w x sz n g F) : n ≤ lim := by
  rcases h with ⟨_, h1, _⟩ | ⟨b, o, cap, cells, T, hx, h1, h2, _⟩
  · subst h1; exact Nat.zero_le _
  · exact h2
def lenB : Blk → Prop
  | .ints xs => xs.length ≤ lim
  | .bools xs => xs.length ≤ lim
  | .rows xs => xs.length ≤ lim ∧ ∀ j, j < xs.length → (xs.getD j []).length ≤ lim
  | .rowsR xs => xs.length ≤ lim ∧ ∀ j, j < xs.length → (xs.getD j []).length ≤ lim
  | .avs _ n _ => n ≤ lim
  | _ => True
theorem sat_lenB {Z : Nat → Prop} {w : World} {ν : Nat → Value} {x : Value} {F : Nat → Prop} {B : Blk} (h : sat Z w ν x F B) : lenB B := by
  cases B with
  | ints xs => exact row_lim h
  | bools xs => exact row_lim h
  | avs sz n f => exact row_lim h
  | rows xs =>
    obtain ⟨ys, G, F0, h0, h1, _⟩ := h
    exact ⟨row_lim h0, fun j hj => row_lim (h1 j hj trivial).1⟩
  | rowsR xs =>
    refine ⟨row_lim h, fun j hj => ?_⟩
    obtain ⟨_, _, _, _, es, r, _⟩ := row_addr h hj
    exact R_lenP r
  | _ => trivial

section
variable {ro : Option Nat} {N κ : Nat} {Q : Exit → St → Prop}
theorem awp_lens {c : Code} {s : CS} (t : Nat) (h : lenP (lke s.env t) → awp P ro N κ c s.st Q) : awp P ro N κ c s.st Q :=
  fun n K Z ν w a hg => h (R_lenP (hg.env t).2) n K Z ν w a hg
theorem awp_lensB {c : Code} {s : CS} (k : Nat) {B : Blk} (hk : lkr s.rs k = some B) (h : lenB B → awp P ro N κ c s.st Q) : awp P ro N κ c s.st Q :=
  fun n K Z ν w a hg => by
    obtain ⟨Ft, hF⟩ := id hg.rs
    exact h (sat_lenB (hF k B hk).2.2.1) n K Z ν w a hg
end

/-- What is seen as u may be seen as v. -/
def Imp (u v : AV) : Prop := ∀ (Z : Nat → Prop) (w : World) (ν : Nat → Value) (cs : List Value), R Z w u ν true cs → R Z w v ν true cs
theorem imp_eq {u v : AV} (h : u = v) : Imp u v := fun Z w ν cs hr => h ▸ hr
theorem imp_cons {a b c d : AV} (h1 : Imp a b) (h2 : Imp c d) : Imp (.cons a c) (.cons b d) := fun Z w ν cs ⟨v, vs, e, r1, r2⟩ => ⟨v, vs, e, h1 Z w ν _ r1, h2 Z w ν _ r2⟩
theorem imp_tup {a b : AV} (h : Imp a b) : Imp (.tup a) (.tup b) := fun Z w ν cs ⟨es, e, r⟩ => ⟨es, e, h Z w ν _ r⟩
theorem imp_agg {a b : AV} (h : Imp a b) : Imp (.agg a) (.agg b) := fun Z w ν cs ⟨es, e, r⟩ => ⟨es, e, h Z w ν _ r⟩
theorem imp_nilI : Imp (.cst (.slice none 0 0)) (.roI []) := fun Z w ν cs h => by rw [show cs = [_] from h]; exact nil_roI
theorem imp_nilB : Imp (.cst (.slice none 0 0)) (.roB []) := fun Z w ν cs h => by
  rw [show cs = [_] from h]; exact ⟨none, 0, rfl, Nat.le_refl _, Nat.zero_le _, fun h => absurd h (by simp)⟩
theorem imp_nilII : Imp (.cst (.slice none 0 0)) (.roII []) := fun Z w ν cs h => by
  rw [show cs = [_] from h]; exact ⟨none, 0, rfl, Nat.le_refl _, Nat.zero_le _, fun h => absurd h (by simp)⟩
theorem imp_nilro {sz : Nat} {f : Nat → AV} : Imp (.cst (.slice none 0 0)) (.ro sz 0 f) := fun Z w ν cs h => by
  rw [show cs = [_] from h]; exact ⟨none, 0, rfl, Nat.le_refl _, Nat.zero_le _, fun h => absurd h (Nat.lt_irrefl 0)⟩

def specQ (r : SR) (cs : CS) (v : AV) : Prop :=
  match r.wr with
  | none => Imp v r.val ∧ men noK r.val = true
  | some B => ∃ k, Imp v (ren (fun _ => k) r.val) ∧ k < cs.m ∧ men isOne r.val = true ∧ lkr cs.rs k = some B ∧ freeB B = true ∧ freeP B

theorem fspec_of (htb : TabOK P tb) {f : Nat} {fn : Func} {c : Code} {S : Spec} (hf : P.funcs[f]? = some fn) (hname : (fn.name == "runtime.NumGoroutine") = false) (hb : fn.body = some c) (hN : ∀ args r, S args = some r → args.length ≤ fn.ntmps)
    (h : ∀ args r, S args = some r → r.ob → lenP (mkL args) → awp P none fn.ntmps 0 c (CS.st ⟨0, zipE 0 args, [], []⟩) (exitQ tb fn 0 (specQ r))) : FSpec P f S := by
  refine ⟨⟨fn, hf, hname, by rw [hb]; rfl⟩, fun args r hS hob hm => ?_⟩
  intro K Z ν w vals h1 hr hmen hrs hzk hkl
  have := fcall_of (κ := 0) (rin := []) (Q := fun v μ rs => ∃ cs : CS, noDfr cs.rs rs ∧ specQ r cs v ∧ μ = ltK cs.m) htb hf hb (hN args r hS) (awp_mono (h args r hS hob (R_lenP hr)) ?_) K Z ν w vals h1 hr hmen hrs hzk hkl
  · refine CallsIn.calls (F := FF none) (n := 0) (CallsIn.mono (ff_calls this) ?_) (fun k d hd => by cases hd)
    rintro e w' ⟨y, Z', ν', v, μ', rs', rfl, hst, h1', hν, hμ, hr', hm', hg, hz, cs, hnd, hq, rfl⟩
    unfold specQ at hq
    cases hw : r.wr with
    | none =>
      rw [hw] at hq
      obtain ⟨himp, hmn⟩ := hq
      exact ⟨y, Z', ν', r.val, ltK cs.m, rs', rfl, hst, h1', hν, hμ, himp _ _ _ _ hr', men_free hmn, hg, hz, rfl, fun B hB => by cases hB⟩
    | some B =>
      rw [hw] at hq
      obtain ⟨k, himp, _, hm1, hk, hfr, hfp⟩ := hq
      have hk2 := hnd k B hk (by rintro rfl; cases hfr)
      refine ⟨y, Z', fun _ => ν' k, r.val, isOne, fun j => match j with | 0 => some B | _ => none, rfl, hst, fun _ => h1' k, fun j hj => absurd hj (Nat.not_lt_zero j), fun j hj => absurd hj (Nat.not_lt_zero j), ?_, hm1, ?_, hz, rfl, fun B' hB => by cases hB; exact ⟨rfl, rfl, hfp⟩⟩
      · exact R_ren.1 (himp _ _ _ _ hr')
      · obtain ⟨Ft, hF⟩ := hg
        obtain ⟨g1, g2, g3, g4, g5⟩ := hF k B hk2
        refine ⟨fun _ => Ft k, fun j b hj => ?_⟩
        cases j with
        | succ j => cases hj
        | zero =>
          cases hj
          refine ⟨rfl, menB_free hfr hfp, sat_free hfr hfp g3, g4, fun k' b' hne hk' => ?_⟩
          cases k' with
          | zero => exact absurd rfl hne
          | succ j => cases hk'
  · intro e s hq
    cases e with
    | normal => obtain ⟨cs, l, e1, e2, e3, e4, e5, e6⟩ := hq; exact ⟨cs, l, e1, e2, e3, e4, e5, fun rs hnd => ⟨cs, hnd, e6, rfl⟩⟩
    | ret => obtain ⟨cs, l, e1, e2, e3, e4, e5, e6⟩ := hq; exact ⟨cs, l, e1, e2, e3, e4, e5, fun rs hnd => ⟨cs, hnd, e6, rfl⟩⟩
    | _ => exact hq.elim

theorem fin_ret {fn : Func} {κ m : Nat} {env : List (Nat × AV)} {rs : List (Nat × Option Blk)} {l : List AV} {Q : CS → AV → Prop} (h : evRes tb ⟨m, env, rs, []⟩ fn.results.toList = some l) (hκ : Nat.ble κ m = true) (hq : Q ⟨m, env, rs, []⟩ (resV l)) : exitQ tb fn κ Q .ret (CS.st ⟨m, env, rs, []⟩) :=
  ⟨_, l, rfl, h, fun k hk => absurd hk (by simp), List.nodup_nil, Nat.le_of_ble_eq_true hκ, hq⟩
theorem fin_normal {fn : Func} {κ m : Nat} {env : List (Nat × AV)} {rs : List (Nat × Option Blk)} {l : List AV} {Q : CS → AV → Prop} (h : evRes tb ⟨m, env, rs, []⟩ fn.results.toList = some l) (hκ : Nat.ble κ m = true) (hq : Q ⟨m, env, rs, []⟩ (resV l)) : exitQ tb fn κ Q .normal (CS.st ⟨m, env, rs, []⟩) :=
  ⟨_, l, rfl, h, fun k hk => absurd hk (by simp), List.nodup_nil, Nat.le_of_ble_eq_true hκ, hq⟩
theorem spec_flat {r : SR} {cs : CS} {v : AV} (hw : r.wr = none) (hv : v = r.val) (hm : men noK r.val = true) : specQ r cs v := by
  unfold specQ; rw [hw]; exact ⟨imp_eq hv, hm⟩
theorem spec_imp {r : SR} {cs : CS} {v : AV} (hw : r.wr = none) (hv : Imp v r.val) (hm : men noK r.val = true) : specQ r cs v := by
  unfold specQ; rw [hw]; exact ⟨hv, hm⟩
theorem spec_own {r : SR} {cs : CS} {v : AV} {B : Blk} (k : Nat) (hw : r.wr = some B) (hv : v = ren (fun _ => k) r.val) (hm : men isOne r.val = true) (hk : lkr cs.rs k = some B) (hf : freeB B = true) (hlt : k < cs.m) (hp : freeP B := by exact trivial) : specQ r cs v := by
  unfold specQ; rw [hw]; exact ⟨k, imp_eq hv, hlt, hm, hk, hf, hp⟩
end

end Go.Proofs.Ytgminhedbeblpaa.Cal
