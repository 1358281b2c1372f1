/- A function's contract from its body. -/
import Derived.Test.YtgminhedbeblpaaCal20
set_option linter.unusedVariables false
set_option linter.unusedSimpArgs false
namespace Go.Proofs.Ytgminhedbeblpaa.Cal
open Go

def evRes (tb : Nat → Option TI) (s : CS) : List ResultVar → Option (List AV)
  | [] => some []
  | .tmp t :: r => match evRes tb s r with
    | some l => some (lke s.env t :: l)
    | none => none
  | .cell a t :: r => match tb t with
    | some i => match lke s.env a with
      | .own k => match lkr s.rs k with
        | some (.box u) => match selv i u 0 with
          | some v => match evRes tb s r with
            | some l => some (v :: l)
            | none => none
          | none => none
        | _ => none
      | _ => none
    | none => none
def resV : List AV → AV
  | [v] => v
  | l => .tup (mkL l)

def zipE : Nat → List AV → List (Nat × AV)
  | _, [] => []
  | i, a :: t => (i, a) :: zipE (i + 1) t

def rget (tmps : Array Value) : ResultVar → Sem Value
  | .tmp t => pure (tmps.getD t undef)
  | .cell a t => do loadVar t (← asAddr (tmps.getD a undef))
theorem results_eq (fn : Func) (tmps : Array Value) : results fn tmps = (do let vs ← fn.results.mapM (rget tmps); pure (if h : vs.size = 1 then vs[0] else .tuple vs)) := rfl

section
variable {P : Program} {N : Nat} {tb : Nat → Option TI}

theorem results_list (htb : TabOK P tb) {K Z : Nat → Prop} {w : World} {ν : Nat → Value} {s : CS} {σ : St} {a : Act} (hg : Good K Z N w ν σ a) (hen : σ.env = lke s.env) (hrs : ∀ k B, lkr s.rs k = some B → B ≠ .dfr → σ.rs k = some B) : ∀ (rv : List ResultVar) (l : List AV), evRes tb s rv = some l →
    ∃ ys, (rv.mapM (rget a.tmps)).run P w = .ok ys w ∧ R Z w (mkL l) ν true ys ∧ men σ.mu (mkL l) = true ∧ ys.length = l.length := by
  intro rv
  induction rv with
  | nil => intro l h; simp only [evRes, Option.some.injEq] at h; subst h; exact ⟨[], rfl, rfl, rfl, rfl⟩
  | cons r rv ih =>
    intro l h
    cases r with
    | tmp t =>
      simp only [evRes] at h
      split at h
      · rename_i l' hl
        simp only [Option.some.injEq] at h
        subst h
        obtain ⟨ys, h1, h2, h3, h4⟩ := ih l' hl
        have he := hg.env t
        rw [hen] at he
        refine ⟨a.tmps.getD t undef :: ys, ?_, ⟨_, _, rfl, he.2, h2⟩, by simp only [mkL, men, h3, Bool.and_true]; exact he.1, by simp [h4]⟩
        rw [List.mapM_cons]
        simp only [rget, Sem.run_bind, Sem.run_pure, h1, Result.andThen_ok]
      · cases h
    | cell p t =>
      simp only [evRes] at h
      split at h
      · rename_i i ht
        split at h
        · rename_i k hk
          split at h
          · rename_i u hu
            split at h
            · rename_i v hv
              split at h
              · rename_i l' hl
                simp only [Option.some.injEq] at h
                subst h
                obtain ⟨ys, h1, h2, h3, h4⟩ := ih l' hl
                have he := hg.env p
                have hkk : σ.env p = .own k := by rw [hen]; exact hk
                rw [hkk] at he
                obtain ⟨b, cells, T, hx, hb, r, hmu⟩ := box_of hg.rs (hrs k _ hu (by simp))
                obtain ⟨x, hx2, rx⟩ := sel_load (P := P) (o := 0) (q := 0) (b := b) (htb t i ht) r (box_cells hb) hv
                have hp : a.tmps.getD p undef = .pointer (some ⟨b, 0, none⟩) := by rw [one1 he.2, hx]
                have hl2 : (loadVar t ⟨b, 0, none⟩).run P w = .ok x w := by
                  simpa [Instr.loadAt, Instr.sureAddr, Sem.run_bind, Result.andThen] using hx2
                refine ⟨x :: ys, ?_, ⟨_, _, rfl, rx, h2⟩, by simp only [mkL, men, h3, Bool.and_true]; exact men_sel hmu hv, by simp [h4]⟩
                have hget : (rget a.tmps (.cell p t)).run P w = .ok x w := by
                  simp only [rget, Sem.run_bind, hp, asAddr, Sem.run_pure, Result.andThen_ok, hl2]
                rw [List.mapM_cons]
                simp only [Sem.run_bind, hget, Sem.run_pure, Result.andThen_ok, h1]
              · cases h
            · cases h
          · cases h
        · cases h
      · cases h

theorem results_ok (htb : TabOK P tb) {K Z : Nat → Prop} {w : World} {ν : Nat → Value} {s : CS} {σ : St} {a : Act} {fn : Func} {l : List AV} (hg : Good K Z N w ν σ a) (hen : σ.env = lke s.env) (hrs : ∀ k B, lkr s.rs k = some B → B ≠ .dfr → σ.rs k = some B) (h : evRes tb s fn.results.toList = some l) :
    ∃ y, (results fn a.tmps).run P w = .ok y w ∧ R Z w (resV l) ν true [y] ∧ men σ.mu (resV l) = true := by
  obtain ⟨ys, h1, h2, h3, h4⟩ := results_list htb hg hen hrs _ l h
  have hm : (fn.results.mapM (rget a.tmps)).run P w = .ok ys.toArray w := by
    rw [Array.mapM_eq_mapM_toList, map_eq_pure_bind, Sem.run_bind, h1]; rfl
  have hres : (results fn a.tmps).run P w = .ok (if h : ys.toArray.size = 1 then ys.toArray[0] else .tuple ys.toArray) w := by
    rw [results_eq, Sem.run_bind, hm]; rfl
  refine ⟨_, hres, ?_⟩
  cases l with
  | nil =>
    have : ys = [] := h2
    subst this
    exact ⟨⟨[], rfl, rfl⟩, rfl⟩
  | cons v l =>
    cases l with
    | nil =>
      obtain ⟨y, ys', rfl, r1, r2⟩ := h2
      have : ys' = [] := r2
      subst this
      simp only [mkL, men, Bool.and_true] at h3
      exact ⟨r1, h3⟩
    | cons v2 l =>
      have hn : ¬ ys.toArray.size = 1 := by simp [h4]
      rw [dif_neg hn]
      exact ⟨⟨ys, rfl, h2⟩, h3⟩

theorem grs_drop {K Z : Nat → Prop} {w w' : World} {ν : Nat → Value} {μ : Nat → Bool} {rs : Rs} {k0 : Nat} {b0 : Blk} (h : GoodRs K Z w ν μ rs) (hzk : ∀ b, Z b → K b) (hk : rs k0 = some b0) : ∃ F0, sat Z w ν (ν k0) F0 b0 ∧ (∀ y, F0 y → ¬ K y ∧ y < w.heap.size) ∧
    ((∀ y, ¬ F0 y → w'.heap[y]? = w.heap[y]?) → w'.heap.size = w.heap.size → GoodRs K Z w' ν μ (updL rs [(k0, none)])) := by
  obtain ⟨Ft, h⟩ := h
  obtain ⟨a1, a2, a3, a4, a5⟩ := h k0 b0 hk
  refine ⟨Ft k0, a3, a4, fun hw hsz => ⟨Ft, fun k b hkb => ?_⟩⟩
  have hu : ∀ j, updL rs [(k0, none)] j = if j = k0 then none else rs j := by
    intro j
    simp only [updL, lko]
    by_cases hj : j = k0
    · subst hj; simp [Nat.beq_refl]
    · simp only [beqN hj, if_neg hj]
  rw [hu] at hkb
  by_cases hkk : k = k0
  · rw [if_pos hkk] at hkb; cases hkb
  · rw [if_neg hkk] at hkb
    obtain ⟨g1, g2, g3, g4, g5⟩ := h k b hkb
    refine ⟨g1, g2, sat_mono (fun _ h => h) (fun y hy => hw y (fun hf => (a4 y hf).1 (hzk y hy))) (fun y hy => hw y (g5 k0 b0 hkk hk y hy)) g3, fun y hy => ⟨(g4 y hy).1, by rw [hsz]; exact (g4 y hy).2⟩, fun k' b' hne hk' y hy => ?_⟩
    rw [hu] at hk'
    by_cases hk2 : k' = k0
    · rw [if_pos hk2] at hk'; cases hk'
    · rw [if_neg hk2] at hk'; exact g5 k' b' hne hk' y hy

theorem leaves_ok {F : Fence} {n : Nat} {fn : Func} {R : Ending → World → Prop} : ∀ (ms : List Nat) (K Z : Nat → Prop) (ν : Nat → Value) (w : World) (μ : Nat → Bool) (env : Env) (rs : Rs) (a : Act), Good K Z N w ν ⟨μ, env, rs, ms⟩ a → (∀ k, k ∈ ms → rs k = some .dfr) → ms.Nodup →
    (∀ w' rs', Step K Z w Z w' → Good K Z N w' ν ⟨μ, env, rs', []⟩ { a with defers := [] } → (∀ k, k ∉ ms → rs' k = rs k) → ∃ v, (results fn a.tmps).run P w' = .ok v w' ∧ R (.returned v) w') → LeavesInM F n P fn a.tmps R a.defers .returning w := by
  intro ms
  induction ms with
  | nil =>
    intro K Z ν w μ env rs a hg _ _ hq
    have hd : a.defers = [] := hg.ds
    rw [hd]
    exact hq w rs (Step.refl K Z w) (by obtain ⟨t, d⟩ := a; simp only at hd; subst hd; exact hg) (fun _ _ => rfl)
  | cons k ms ih =>
    intro K Z ν w μ env rs a hg hdf hnd hq
    have hd : a.defers = markOf (ν k) :: ms.map (fun k => markOf (ν k)) := hg.ds
    rw [hd]
    rw [List.nodup_cons] at hnd
    have hk : rs k = some .dfr := hdf k List.mem_cons_self
    obtain ⟨F0, ⟨b, hx, hb, hF⟩, hF2, hdrop⟩ := grs_drop (w' := w.putObj ((markAt (ν k))) (.deferred none)) hg.rs hg.zk hk
    have hbm : markAt (ν k) = b := by rw [hx]; rfl
    rw [hbm] at hdrop
    have hbF : F0 b := (hF b).2 rfl
    have hw1 : ∀ y, ¬ F0 y → (w.putObj b (.deferred none)).heap[y]? = w.heap[y]? := fun y hy => by
      have : y ≠ b := fun e => hy (e ▸ hbF)
      simp [World.putObj, Array.getElem?_setIfInBounds, Ne.symm this]
    have hw2 : (w.putObj b (.deferred none)).heap.size = w.heap.size := by simp [World.putObj]
    have hstep : Step K Z w Z (w.putObj b (.deferred none)) := ⟨⟨rfl, rfl, rfl, by omega, fun y hy => hw1 y (fun hf => (hF2 y hf).1 hy)⟩, fun _ h => h, fun _ h => .inl h⟩
    have hgood : Good K Z N (w.putObj b (.deferred none)) ν ⟨μ, env, updL rs [(k, none)], ms⟩ { a with defers := ms.map (fun k => markOf (ν k)) } := by
      refine ⟨hg.size, hg.one, fun s => ⟨(hg.env s).1, R_mono (fun _ h => h) (fun y hy => hw1 y (fun hf => (hF2 y hf).1 (hg.zk y hy))) (hg.env s).2⟩, hdrop hw1 hw2, hg.zk, fun y hy => by rw [hw2]; exact hg.kl y hy, rfl, fun j hj => hg.ml j (List.mem_cons_of_mem _ hj)⟩
    have hu : ∀ j, j ≠ k → updL rs [(k, none)] j = rs j := fun j hj => by simp only [updL, lko, beqN hj]
    refine ⟨by simp, .inl ⟨b, w.putObj b (.deferred none), by simp only [markOf, hbm], run_takeDeferred hb, ?_⟩⟩
    have := ih K Z ν _ μ env _ _ hgood (fun j hj => by rw [hu j (fun e => hnd.1 (e ▸ hj))]; exact hdf j (List.mem_cons_of_mem _ hj)) hnd.2 (fun w' rs' hs hg' hr => by
      refine hq w' rs' (by have := hstep.trans (by rw [un_self hg.zk]; exact hs); exact this) hg' fun j hj => ?_
      simp only [List.mem_cons, not_or] at hj
      rw [hr j hj.2, hu j hj.1])
    exact this

/-- What a function's body must come to. -/
def exitQ (tb : Nat → Option TI) (fn : Func) (κ : Nat) (Q : CS → AV → Prop) : Exit → St → Prop
  | .normal, s | .ret, s => ∃ (cs : CS) (l : List AV), s = cs.st ∧ evRes tb cs fn.results.toList = some l ∧ (∀ k, k ∈ cs.ms → lkr cs.rs k = some .dfr) ∧ cs.ms.Nodup ∧ κ ≤ cs.m ∧ Q cs (resV l)
  | _, _ => False

/-- The resources that a state lists, without the marks. -/
def noDfr (l : List (Nat × Option Blk)) (rs : Rs) : Prop := ∀ k B, lkr l k = some B → B ≠ .dfr → rs k = some B

theorem fcall_of (htb : TabOK P tb) {f κ : Nat} {fn : Func} {c : Code} {args : List AV} {rin : List (Nat × Option Blk)} {Q : AV → (Nat → Bool) → Rs → Prop} (hf : P.funcs[f]? = some fn) (hb : fn.body = some c) (hN : args.length ≤ fn.ntmps)
    (h : awp P none fn.ntmps κ c (CS.st ⟨κ, zipE 0 args, rin, []⟩) (exitQ tb fn κ fun cs v => ∀ rs, noDfr cs.rs rs → Q v (ltK cs.m) rs)) : FCall P f κ args (lkr rin) Q := by
  intro K Z ν w vals h1 hr hm hrs hzk hkl
  have hlen : vals.size = args.length := by
    have : ∀ (args : List AV) (cs : List Value), R Z w (mkL args) ν true cs → cs.length = args.length := by
      intro args
      induction args with
      | nil => intro cs h; rw [show cs = [] from h]; rfl
      | cons a t ih => intro cs h; obtain ⟨v, vs, rfl, _, r2⟩ := h; simp [ih vs r2]
    simpa using this args _ hr
  have hnth : ∀ (args : List AV) (i s : Nat) (cs : List Value), R Z w (mkL args) ν true cs → men (ltK κ) (mkL args) = true → men (ltK κ) (lke (zipE i args) s) = true ∧ ((i ≤ s ∧ s < i + args.length → R Z w (lke (zipE i args) s) ν true [cs.getD (s - i) undef]) ∧ (¬ (i ≤ s ∧ s < i + args.length) → lke (zipE i args) s = .any)) := by
    intro args
    induction args with
    | nil => intro i s cs _ _; exact ⟨rfl, fun h => by simp at h; omega, fun _ => rfl⟩
    | cons a t ih =>
      intro i s cs hr hm
      obtain ⟨v, vs, rfl, r1, r2⟩ := hr
      simp only [mkL, men, Bool.and_eq_true] at hm
      obtain ⟨g1, g2, g3⟩ := ih (i + 1) s vs r2 hm.2
      by_cases hs : s = i
      · subst hs
        simp only [zipE, lke, Nat.beq_refl]
        exact ⟨hm.1, fun _ => by rw [Nat.sub_self]; exact r1, fun hn => absurd ⟨Nat.le_refl s, by simp⟩ hn⟩
      · simp only [zipE, lke, beqN hs]
        refine ⟨g1, fun hh => ?_, fun hn => g3 fun hh => hn ⟨by omega, by simp only [List.length_cons]; omega⟩⟩
        have := g2 ⟨by omega, by simp only [List.length_cons] at hh; omega⟩
        rw [show s - i = (s - (i + 1)) + 1 from by omega]
        exact this
  have hgood : Good K Z fn.ntmps w ν (CS.st ⟨κ, zipE 0 args, rin, []⟩) { tmps := vals ++ Array.replicate (fn.ntmps - vals.size) undef, defers := [] } := by
    refine ⟨by simp; omega, h1, fun s => ?_, hrs, hzk, hkl, rfl, fun k hk => by cases hk⟩
    obtain ⟨g1, g2, g3⟩ := hnth args 0 s vals.toList hr hm
    refine ⟨g1, ?_⟩
    show R Z w (lke (zipE 0 args) s) ν true _
    by_cases hs : s < args.length
    · have := g2 ⟨by omega, by omega⟩
      have e : (vals ++ Array.replicate (fn.ntmps - vals.size) undef).getD s undef = vals.toList.getD (s - 0) undef := by
        simp [Array.getD_eq_getD_getElem?, List.getD_eq_getElem?_getD, Array.getElem?_append_left (show s < vals.size by omega)]
      show R Z w _ ν true [(vals ++ Array.replicate (fn.ntmps - vals.size) undef).getD s undef]
      rw [e]; exact this
    · rw [g3 (by omega)]; exact ⟨_, rfl⟩
  have := callsIn_of_wp_marks (F := FF none) (n := 0) (R := fun e w' => ∃ (y : Value) (Z' : Nat → Prop) (ν' : Nat → Value) (v : AV) (μ' : Nat → Bool) (rs' : Rs), e = .returned y ∧ Step K Z w Z' w' ∧ (∀ k, (ν' k).oneCell' = true) ∧ (∀ k, k < κ → ν' k = ν k) ∧ (∀ k, k < κ → μ' k = true) ∧
      R Z' w' v ν' true [y] ∧ men μ' v = true ∧ GoodRs (un K Z') Z' w' ν' μ' rs' ∧ (∀ b, Z' b → b < w'.heap.size) ∧ Q v μ' rs') (args := vals) (w := w) hf hb trivial (wpIn_mono (h 0 K Z ν w _ hgood) ?_)
  · exact CallsIn.calls this (fun k d hd => by cases hd)
  · rintro e a' w' ⟨Z', ν', σ', hst, hν, hg, hq⟩
    have key : ∀ (cs : CS) (l : List AV), σ' = cs.st → evRes tb cs fn.results.toList = some l → (∀ k, k ∈ cs.ms → lkr cs.rs k = some .dfr) → cs.ms.Nodup → κ ≤ cs.m → (∀ rs, noDfr cs.rs rs → Q (resV l) (ltK cs.m) rs) → LeavesInM (FF none) 0 P fn a'.tmps (fun e w' => ∃ (y : Value) (Z' : Nat → Prop) (ν' : Nat → Value) (v : AV) (μ' : Nat → Bool) (rs' : Rs), e = .returned y ∧ Step K Z w Z' w' ∧ (∀ k, (ν' k).oneCell' = true) ∧ (∀ k, k < κ → ν' k = ν k) ∧ (∀ k, k < κ → μ' k = true) ∧
        R Z' w' v ν' true [y] ∧ men μ' v = true ∧ GoodRs (un K Z') Z' w' ν' μ' rs' ∧ (∀ b, Z' b → b < w'.heap.size) ∧ Q v μ' rs') a'.defers .returning w' := by
      intro cs l e1 e2 e3 e4 e5 e6
      subst e1
      refine leaves_ok cs.ms (un K Z') Z' ν' w' _ _ _ a' hg e3 e4 fun w2 rs2 hs2 hg2 hr2 => ?_
      have hnd : ∀ k B, lkr cs.rs k = some B → B ≠ .dfr → rs2 k = some B := fun k B hk hB => by
        rw [hr2 k (fun hm => by rw [e3 k hm] at hk; cases hk; exact hB rfl)]; exact hk
      -- the values, in the last world
      obtain ⟨y, hy, hry, hmy⟩ := results_ok htb hg2 rfl hnd e2
      exact ⟨y, hy, y, Z', ν', resV l, ltK cs.m, rs2, rfl, hst.trans hs2, hg2.one, hν, fun k hk => by show Nat.blt k cs.m = true; rw [Nat.blt_eq]; omega, hry, hmy, hg2.rs, fun b hb => hg2.kl b (hg2.zk b hb), e6 rs2 hnd⟩
    cases e with
    | normal => obtain ⟨cs, l, e1, e2, e3, e4, e5, e6⟩ := hq; exact key cs l e1 e2 e3 e4 e5 e6
    | ret => obtain ⟨cs, l, e1, e2, e3, e4, e5, e6⟩ := hq; exact key cs l e1 e2 e3 e4 e5 e6
    | _ => exact hq.elim
end

end Go.Proofs.Ytgminhedbeblpaa.Cal
