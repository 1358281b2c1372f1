/- The table of types: what it takes to be right. -/
import Derived.Test.YtgminhedbeblpaaCal22
set_option linter.unusedVariables false
set_option linter.unusedSimpArgs false
namespace Go.Proofs.Ytgminhedbeblpaa.Cal
open Go

def zval : AV → Value
  | .int k n => .int k n
  | .bool b => .bool b
  | .cst v => v
  | _ => undef
def zflat : AV → Bool
  | .int _ _ => true
  | .bool _ => true
  | .cst v => v.oneCell'
  | _ => false
def zl : AV → List Value
  | .cons h t => zval h :: zl t
  | _ => []
def zfl : AV → Bool
  | .cons h t => zflat h && zfl t
  | .nil => true
  | _ => false
/-- The zero value that an abstract one stands for. -/
def zof : AV → Value
  | .agg l => .agg (zl l).toArray
  | u => zval u
def zok : AV → Bool
  | .agg l => zfl l
  | u => zflat u

section
variable {P : Program}

theorem zfl_R {Z : Nat → Prop} {w : World} {ν : Nat → Value} : ∀ {l : AV}, zfl l = true → R Z w l ν true (zl l) ∧ ∀ y, y ∈ zl l → y.oneCell' = true := by
  intro l
  induction l with
  | cons h t _ ih =>
    intro hz
    simp only [zfl, Bool.and_eq_true] at hz
    obtain ⟨h1, h2⟩ := ih hz.2
    have hh : R Z w h ν true [zval h] ∧ (zval h).oneCell' = true := by
      cases h <;> first | (cases hz.1; done) | exact ⟨rfl, rfl⟩ | exact ⟨rfl, hz.1⟩
    refine ⟨⟨_, _, rfl, hh.1, h1⟩, fun y hy => ?_⟩
    rcases List.mem_cons.1 hy with rfl | hy
    · exact hh.2
    · exact h2 y hy
  | nil => intro _; exact ⟨rfl, fun y hy => by cases hy⟩
  | _ => intro hz; cases hz

theorem info_of {t : Nat} {i : TI} (hi : (P.info? t).map (fun j => (j.zero, j.size, j.bytes)) = some (some (zof i.zero), i.size, i.bytes)) (hz : zok i.zero = true) (hs : (zof i.zero).cells.size = i.size) :
    ∃ inf, P.info? t = some inf ∧ inf.size = i.size ∧ inf.bytes = i.bytes ∧ ∃ z, inf.zero = some z ∧ z.cells.size = i.size ∧ (isAg i.zero = false → z.cells = #[z]) ∧ (∀ y, y ∈ z.cells.toList → y.oneCell' = true) ∧ ∀ Z w ν, R Z w i.zero ν false z.cells.toList := by
  cases hinf : P.info? t with
  | none => rw [hinf] at hi; cases hi
  | some inf =>
    rw [hinf] at hi
    simp only [Option.map_some, Option.some.injEq, Prod.mk.injEq] at hi
    obtain ⟨h1, h2, h3⟩ := hi
    refine ⟨inf, rfl, h2, h3, _, h1, hs, ?_⟩
    cases hzz : i.zero with
    | agg l =>
      rw [hzz] at hz
      have : (zof (AV.agg l)).cells.toList = zl l := rfl
      refine ⟨(fun h => by cases h), fun y hy => (zfl_R (Z := fun _ => False) (w := default) (ν := nu0) hz).2 y (by rw [← this]; exact hy), fun Z w ν => ?_⟩
      rw [this]; exact (zfl_R hz).1
    | int k n => exact ⟨fun _ => rfl, fun y hy => by simp [zof, zval, Value.cells] at hy; subst hy; rfl, fun Z w ν => rfl⟩
    | bool b => exact ⟨fun _ => rfl, fun y hy => by simp [zof, zval, Value.cells] at hy; subst hy; rfl, fun Z w ν => rfl⟩
    | cst v =>
      rw [hzz] at hz
      have hz : v.oneCell' = true := hz
      have hc : v.cells = #[v] := by cases v <;> first | rfl | cases hz
      refine ⟨fun _ => hc, fun y hy => ?_, fun Z w ν => ?_⟩
      · have : y ∈ v.cells.toList := hy
        rw [hc] at this; simp at this; subst this; exact hz
      · show R Z w (.cst v) ν false v.cells.toList
        rw [hc]; rfl
    | _ => rw [hzz] at hz; cases hz

theorem tok_leaf {t sz by' : Nat} {z : AV} {d : TypeDesc} (hi : (P.info? t).map (fun j => (j.zero, j.size, j.bytes)) = some (some (zof z), sz, by')) (hu : P.underlying t = some d) (hd : isAgD d = false) (hz : zok z = true) (hs : (zof z).cells.size = sz) : TOK P t ⟨.leaf, sz, by', z⟩ :=
  ⟨info_of hi hz hs, fun _ => ⟨d, hu, hd⟩, (fun h => by cases h), (fun e h => by cases h), (fun fs h => by cases h), (fun h => by cases h)⟩
theorem tok_bool {t sz by' : Nat} {z : AV} (hi : (P.info? t).map (fun j => (j.zero, j.size, j.bytes)) = some (some (zof z), sz, by')) (hu : P.underlying t = some .bool) (hz : zok z = true) (hs : (zof z).cells.size = sz) : TOK P t ⟨.bool, sz, by', z⟩ :=
  ⟨info_of hi hz hs, (fun h => by cases h), fun _ => hu, (fun e h => by cases h), (fun fs h => by cases h), (fun h => by cases h)⟩
theorem tok_slc {t e sz by' : Nat} {z : AV} (hi : (P.info? t).map (fun j => (j.zero, j.size, j.bytes)) = some (some (zof z), sz, by')) (hu : P.underlying t = some (.slice e)) (hz : zok z = true) (hs : (zof z).cells.size = sz) : TOK P t ⟨.slc e, sz, by', z⟩ :=
  ⟨info_of hi hz hs, (fun h => by cases h), (fun h => by cases h), (fun e' h => by cases h; exact hu), (fun fs h => by cases h), (fun h => by cases h)⟩
def mapChk (P : Program) (t : Nat) : Bool :=
  match P.underlying t with
  | some (.map k e) => match P.underlying k, P.info? e with
    | some (.int .i64), some inf => match inf.zero with
      | some (.int .i64 z) => decide (z = 0)
      | _ => false
    | _, _ => false
  | _ => false
theorem map_of {t : Nat} (h : mapChk P t = true) : MapOK P t := by
  unfold mapChk at h
  split at h
  · rename_i k e hu
    split at h
    · rename_i inf hk he
      split at h
      · rename_i z hz
        have := of_decide_eq_true h
        subst this
        exact ⟨k, e, hu, hk, inf, he, hz⟩
      · cases h
    · cases h
  · cases h
theorem tok_map {t sz by' : Nat} {z : AV} (hi : (P.info? t).map (fun j => (j.zero, j.size, j.bytes)) = some (some (zof z), sz, by')) (hm : mapChk P t = true) (hz : zok z = true) (hs : (zof z).cells.size = sz) : TOK P t ⟨.map, sz, by', z⟩ :=
  ⟨info_of hi hz hs, (fun h => by cases h), (fun h => by cases h), (fun e h => by cases h), (fun fs h => by cases h), fun _ => map_of hm⟩

def strChk (P : Program) (t : Nat) (fs : List (Nat × Nat × Bool)) : Bool :=
  match P.underlying t with
  | some (.struct arr) => Nat.beq arr.size fs.length && (List.range fs.length).all fun f => match fs[f]?, arr[f]? with
    | some (o, s, _), some fd => Nat.beq fd.offset o && Nat.blt 0 s && (match P.info? fd.type with | some inf => Nat.beq inf.size s | none => false)
    | _, _ => false
  | _ => false

theorem str_of {t : Nat} {fs : List (Nat × Nat × Bool)} (h : strChk P t fs = true) : ∃ arr : Array Field, P.underlying t = some (.struct arr) ∧ arr.size = fs.length ∧ ∀ (f o s : Nat) (g : Bool), fs[f]? = some (o, s, g) → ∃ fd : Field, arr[f]? = some fd ∧ fd.offset = o ∧ 0 < s ∧ ∃ inf, P.info? fd.type = some inf ∧ inf.size = s := by
  unfold strChk at h
  split at h
  · rename_i arr hu
    simp only [Bool.and_eq_true, List.all_eq_true, List.mem_range] at h
    refine ⟨arr, hu, Nat.eq_of_beq_eq_true h.1, fun f o s g hf => ?_⟩
    have := h.2 f (List.getElem?_eq_some_iff.1 hf).1
    rw [hf] at this
    cases hfd : arr[f]? with
    | none => rw [hfd] at this; cases this
    | some fd =>
      rw [hfd] at this
      simp only [Bool.and_eq_true, Nat.blt_eq] at this
      obtain ⟨⟨h1, h2⟩, h3⟩ := this
      cases hinf : P.info? fd.type with
      | none => rw [hinf] at h3; cases h3
      | some inf => rw [hinf] at h3; exact ⟨fd, rfl, Nat.eq_of_beq_eq_true h1, h2, inf, hinf, Nat.eq_of_beq_eq_true h3⟩
  · cases h

theorem tok_str {t sz by' : Nat} {z : AV} {fs : List (Nat × Nat × Bool)} (hi : (P.info? t).map (fun j => (j.zero, j.size, j.bytes)) = some (some (zof z), sz, by')) (hu : strChk P t fs = true) (hz : zok z = true) (hs : (zof z).cells.size = sz) : TOK P t ⟨.str fs, sz, by', z⟩ :=
  ⟨info_of hi hz hs, (fun h => by cases h), (fun h => by cases h), (fun e h => by cases h), (fun fs' h => by cases h; exact str_of hu), fun h => by cases h⟩
end

end Go.Proofs.Ytgminhedbeblpaa.Cal
