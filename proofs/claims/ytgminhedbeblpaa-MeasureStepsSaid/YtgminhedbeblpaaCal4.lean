/- What single operations come to, over abstract values: those that change nothing. -/
import Derived.Test.YtgminhedbeblpaaCal3
import Derived.IntWalk
import Derived.Shelf.Abstract
set_option linter.unusedVariables false
set_option linter.unusedSimpArgs false
namespace Go.Proofs.Ytgminhedbeblpaa.Cal
open Go

inductive TK where
  | leaf
  | bool
  | slc (e : Nat)
  | str (fs : List (Nat × Nat × Bool))
  | map
structure TI where
  k : TK
  size : Nat
  bytes : Nat
  zero : AV

def isAg : AV → Bool
  | .agg _ => true
  | _ => false

def isAgD : TypeDesc → Bool
  | .struct _ | .array _ _ => true
  | _ => false

/-- A map from numbers to numbers. -/
def MapOK (P : Program) (t : Nat) : Prop := ∃ k e, P.underlying t = some (.map k e) ∧ P.underlying k = some (.int .i64) ∧ ∃ inf, P.info? e = some inf ∧ inf.zero = some (.int .i64 0)

/-- The table says of type t what the program's own says. -/
structure TOK (P : Program) (t : Nat) (i : TI) : Prop where
  info : ∃ inf, P.info? t = some inf ∧ inf.size = i.size ∧ inf.bytes = i.bytes ∧ ∃ z, inf.zero = some z ∧ z.cells.size = i.size ∧ (isAg i.zero = false → z.cells = #[z]) ∧ (∀ y, y ∈ z.cells.toList → y.oneCell' = true) ∧ ∀ Z w ν, R Z w i.zero ν false z.cells.toList
  leaf : i.k = .leaf → ∃ d, P.underlying t = some d ∧ isAgD d = false
  bool : i.k = .bool → P.underlying t = some .bool
  slc : ∀ e, i.k = .slc e → P.underlying t = some (.slice e)
  str : ∀ fs, i.k = .str fs → ∃ arr : Array Field, P.underlying t = some (.struct arr) ∧ arr.size = fs.length ∧ ∀ (f o s : Nat) (g : Bool), fs[f]? = some (o, s, g) → ∃ fd : Field, arr[f]? = some fd ∧ fd.offset = o ∧ 0 < s ∧ ∃ inf, P.info? fd.type = some inf ∧ inf.size = s
  map : i.k = .map → MapOK P t

def TabOK (P : Program) (tb : Nat → Option TI) : Prop := ∀ t i, tb t = some i → TOK P t i

/-! ### Lists of abstract values -/
def nthL : AV → Nat → AV
  | .cons h _, 0 => h
  | .cons _ t, n + 1 => nthL t n
  | _, _ => .any
def dropL : AV → Nat → AV
  | x, 0 => x
  | .cons _ t, n + 1 => dropL t n
  | x, _ => x
def takeL : AV → Nat → AV
  | _, 0 => .nil
  | .cons h t, n + 1 => .cons h (takeL t n)
  | x, _ => x
def lenL : AV → Nat
  | .cons _ t => lenL t + 1
  | _ => 0
def properL : AV → Bool
  | .nil => true
  | .cons _ t => properL t
  | _ => false
def setL : AV → Nat → AV → AV
  | .cons _ t, 0, v => .cons v t
  | .cons h t, n + 1, v => .cons h (setL t n v)
  | x, _, _ => x
def appL : AV → AV → AV
  | .cons h t, x => .cons h (appL t x)
  | _, x => x
def cellsL : AV → AV
  | .agg l => l
  | v => .cons v .nil
/-- It is one value. -/
def isV : AV → Bool
  | .nil => false
  | .cons _ _ => false
  | .whn _ u => isV u
  | _ => true

theorem R_leaf {Z : Nat → Prop} {w : World} {u : AV} {ν : Nat → Value} {cs : List Value} (h : isAg u = false) : R Z w u ν false cs ↔ R Z w u ν true cs := by
  cases u <;> first | exact Iff.rfl | cases h

theorem R_isV {Z : Nat → Prop} {w : World} {ν : Nat → Value} : ∀ {u : AV} {cs : List Value}, isV u = true → R Z w u ν true cs → ∃ v, cs = [v] := by
  intro u
  induction u with
  | whn g u ih =>
    intro cs h hr
    cases g with
    | true => exact ih h (hr.1 rfl)
    | false => exact ⟨_, hr.2 rfl⟩
  | nil => intro cs h; cases h
  | cons a b _ _ => intro cs h; cases h
  | any => intro cs _ h; exact h
  | int k n => intro cs _ h; exact ⟨_, h⟩
  | bool b => intro cs _ h; exact ⟨_, h⟩
  | cst v => intro cs _ h; exact ⟨_, h⟩
  | own k => intro cs _ h; exact ⟨_, h⟩
  | adr k sz i o => intro cs _ h; obtain ⟨b, f, _, e⟩ := h; exact ⟨_, e⟩
  | roI xs => intro cs _ h; obtain ⟨A, cap, e, _⟩ := h; exact ⟨_, e⟩
  | roB xs => intro cs _ h; obtain ⟨A, cap, e, _⟩ := h; exact ⟨_, e⟩
  | roII xs => intro cs _ h; obtain ⟨A, cap, e, _⟩ := h; exact ⟨_, e⟩
  | ro sz n f _ => intro cs _ h; obtain ⟨A, cap, e, _⟩ := h; exact ⟨_, e⟩
  | rop u _ => intro cs _ h; obtain ⟨b, o, e, _⟩ := h; exact ⟨_, e⟩
  | agg l _ => intro cs _ h; obtain ⟨es, e, _⟩ := h; exact ⟨_, e⟩
  | tup l _ => intro cs _ h; obtain ⟨es, e, _⟩ := h; exact ⟨_, e⟩
  | fn f c _ => intro cs _ h; obtain ⟨es, e, _⟩ := h; exact ⟨_, e⟩
  | yld k => intro cs _ h; obtain ⟨l, _, e⟩ := h; exact ⟨_, e⟩

theorem R_nth {Z : Nat → Prop} {w : World} {ν : Nat → Value} : ∀ {l : AV} {i : Nat} {cs : List Value}, R Z w l ν true cs → i < lenL l → ∃ v, cs[i]? = some v ∧ R Z w (nthL l i) ν true [v] := by
  intro l
  induction l with
  | cons h t _ ih =>
    intro i cs hr hi
    obtain ⟨v, vs, rfl, r1, r2⟩ := hr
    cases i with
    | zero => exact ⟨v, rfl, r1⟩
    | succ i => exact ih r2 (by simp only [lenL] at hi; omega)
  | _ => intro i cs _ hi; simp only [lenL] at hi; omega

theorem R_drop {Z : Nat → Prop} {w : World} {ν : Nat → Value} : ∀ {l : AV} {i : Nat} {cs : List Value}, R Z w l ν true cs → i ≤ lenL l → R Z w (dropL l i) ν true (cs.drop i) := by
  intro l
  induction l with
  | cons h t _ ih =>
    intro i cs hr hi
    cases i with
    | zero => exact hr
    | succ i =>
      obtain ⟨v, vs, rfl, r1, r2⟩ := hr
      exact ih r2 (by simp only [lenL] at hi; omega)
  | _ => intro i cs hr hi; simp only [lenL] at hi; obtain rfl : i = 0 := by omega
         exact hr

theorem R_take {Z : Nat → Prop} {w : World} {ν : Nat → Value} : ∀ {l : AV} {i : Nat} {cs : List Value}, R Z w l ν true cs → i ≤ lenL l → R Z w (takeL l i) ν true (cs.take i) := by
  intro l
  induction l with
  | cons h t _ ih =>
    intro i cs hr hi
    cases i with
    | zero => show cs.take 0 = []; simp
    | succ i =>
      obtain ⟨v, vs, rfl, r1, r2⟩ := hr
      exact ⟨v, vs.take i, rfl, r1, ih r2 (by simp only [lenL] at hi; omega)⟩
  | _ => intro i cs hr hi; simp only [lenL] at hi; obtain rfl : i = 0 := by omega
         show cs.take 0 = []; simp

theorem R_len {Z : Nat → Prop} {w : World} {ν : Nat → Value} : ∀ {l : AV} {cs : List Value}, properL l = true → R Z w l ν true cs → cs.length = lenL l := by
  intro l
  induction l with
  | cons h t _ ih =>
    intro cs hp hr
    obtain ⟨v, vs, rfl, r1, r2⟩ := hr
    simp only [lenL, List.length_cons, ih hp r2]
  | nil => intro cs _ hr; rw [show cs = [] from hr]; rfl
  | _ => intro cs hp; cases hp

theorem lenL_take : ∀ {l : AV} {i : Nat}, i ≤ lenL l → lenL (takeL l i) = i := by
  intro l
  induction l with
  | cons h t _ ih => intro i hi; cases i with
    | zero => rfl
    | succ i => simp only [takeL, lenL]; rw [ih (by simp only [lenL] at hi; omega)]
  | _ => intro i hi; simp only [lenL] at hi; obtain rfl : i = 0 := by omega
         rfl
theorem properL_take : ∀ {l : AV} {i : Nat}, i ≤ lenL l → properL (takeL l i) = true := by
  intro l
  induction l with
  | cons h t _ ih => intro i hi; cases i with
    | zero => rfl
    | succ i => simp only [takeL, properL]; rw [ih (by simp only [lenL] at hi; omega)]
  | _ => intro i hi; simp only [lenL] at hi; obtain rfl : i = 0 := by omega
         rfl

theorem men_nth {μ : Nat → Bool} : ∀ {l : AV} {i : Nat}, men μ l = true → men μ (nthL l i) = true := by
  intro l
  induction l with
  | cons h t _ ih => intro i hm; simp only [men, Bool.and_eq_true] at hm; cases i with
    | zero => exact hm.1
    | succ i => exact ih hm.2
  | _ => intro i _; rfl
theorem men_drop {μ : Nat → Bool} : ∀ {l : AV} {i : Nat}, men μ l = true → men μ (dropL l i) = true := by
  intro l
  induction l with
  | cons h t _ ih => intro i hm; cases i with
    | zero => exact hm
    | succ i => simp only [men, Bool.and_eq_true] at hm; exact ih hm.2
  | _ => intro i hm; cases i <;> exact hm
theorem men_take {μ : Nat → Bool} : ∀ {l : AV} {i : Nat}, men μ l = true → men μ (takeL l i) = true := by
  intro l
  induction l with
  | cons h t _ ih => intro i hm; cases i with
    | zero => rfl
    | succ i => simp only [men, takeL, Bool.and_eq_true] at hm ⊢; exact ⟨hm.1, ih hm.2⟩
  | _ => intro i hm; cases i <;> first | rfl | exact hm
theorem men_cells {μ : Nat → Bool} {u : AV} (h : men μ u = true) : men μ (cellsL u) = true := by
  cases u <;> simp_all [men, cellsL]

theorem R_cells {Z : Nat → Prop} {w : World} {ν : Nat → Value} {u : AV} {cs : List Value} (hv : isV u = true) (h : R Z w u ν false cs) : R Z w (cellsL u) ν true cs := by
  cases u with
  | agg l => exact h
  | nil => cases hv
  | cons a b => cases hv
  | _ =>
    have h' := (R_leaf (by rfl)).1 h
    obtain ⟨v, rfl⟩ := R_isV hv h'
    exact ⟨v, [], rfl, h', rfl⟩

/-! ### Reading -/
theorem cell_heap {w : World} {b : Nat} {cells : Array Value} {T : TypeId} {fr : Nat × Nat} {j : Nat} {c : Value} (h : w.heap[b]? = some (.cells cells T fr)) (hj : cells[j]? = some c) : w.cell? ⟨b, j, none⟩ = some c := by
  simp [World.cell?, h, hj]

section
variable {P : Program}

theorem isAgg_plain {t : Nat} {d : TypeDesc} (h1 : P.underlying t = some d) (h2 : isAgD d = false) (w : World) : (isAgg t).run P w = .ok false w := by
  cases d <;> first | (cases h2; done) | simp [isAgg, Sem.run_bind, run_underlying h1, Result.andThen, Sem.run]

theorem isAgg_leaf {t : Nat} {i : TI} (h : TOK P t i) (hk : ∀ fs, i.k ≠ .str fs) (w : World) : (isAgg t).run P w = .ok false w := by
  cases hk' : i.k with
  | leaf => obtain ⟨d, h1, h2⟩ := h.leaf hk'; exact isAgg_plain h1 h2 w
  | slc e => exact isAgg_plain (h.slc e hk') rfl w
  | bool => exact isAgg_plain (h.bool hk') rfl w
  | map => obtain ⟨_, _, h1, _⟩ := h.map hk'; exact isAgg_plain h1 rfl w
  | str fs => exact absurd hk' (hk fs)
theorem isAgg_str {t : Nat} {i : TI} (h : TOK P t i) {fs : List (Nat × Nat × Bool)} (hk : i.k = .str fs) (w : World) : (isAgg t).run P w = .ok true w := by
  obtain ⟨arr, h1, _⟩ := h.str fs hk
  simp [isAgg, Sem.run_bind, run_underlying h1, Result.andThen]
theorem sizeOf_run {t : Nat} {i : TI} (h : TOK P t i) (w : World) : (sizeOf t).run P w = .ok i.size w := by
  obtain ⟨inf, h1, h2, _⟩ := h.info
  simp [sizeOf, typeInfo, Sem.run_bind, h1, h2, Result.andThen, program, Sem.run]

theorem load_leaf {t : Nat} {i : TI} (h : TOK P t i) (hk : ∀ fs, i.k ≠ .str fs) {w : World} {a : Addr} {v : Value} (hc : w.cell? a = some v) : (Instr.loadAt t (.pointer (some a))).run P w = .ok v w := by
  simp [Instr.loadAt, Instr.sureAddr, loadVar, Sem.run_bind, isAgg_leaf h hk, Result.andThen, load, Sem.run, hc]
theorem load_str {t : Nat} {i : TI} (h : TOK P t i) {fs : List (Nat × Nat × Bool)} (hk : i.k = .str fs) {w : World} {b o : Nat} {es : List Value} (hl : es.length = i.size) (hc : ∀ (j : Nat) c, es[j]? = some c → w.cell? ⟨b, o + j, none⟩ = some c) :
    (Instr.loadAt t (.pointer (some ⟨b, o, none⟩))).run P w = .ok (.agg es.toArray) w := by
  have := run_loadCells_list (P := P) w ⟨b, o, none⟩ es (fun j v hv => by rw [Addr.add_lit]; exact hc j v hv)
  rw [hl] at this
  simp [Instr.loadAt, Instr.sureAddr, loadVar, Sem.run_bind, isAgg_str h hk, sizeOf_run h, Result.andThen, this]

/-- An operation that changes nothing: its value. -/
def PureSem (P : Program) (o : Oper) (get : Operand → AV) (val : AV) (rd : List (Nat × Blk)) : Prop :=
  ∀ K Z ν w (ev : Operand → Value) μ rs, (∀ k, (ν k).oneCell' = true) → GoodRs K Z w ν μ rs → (∀ x, x ∈ o.op.operands → R Z w (get x) ν true [ev x] ∧ men μ (get x) = true) → (∀ p, p ∈ rd → rs p.1 = some p.2) →
    ∃ v, (execOp ev o).run P w = .ok (.value v) w ∧ R Z w val ν true [v] ∧ men μ val = true

def TI.isStr (i : TI) : Bool := match i.k with | .str _ => true | _ => false

/-- What is read of a variable u (its cells from o on) as type i. -/
def selv (i : TI) (u : AV) (o : Nat) : Option AV :=
  if isV u && properL (cellsL u) && Nat.ble (o + i.size) (lenL (cellsL u)) then
    (if i.isStr then some (.agg (takeL (dropL (cellsL u) o) i.size)) else if Nat.beq i.size 1 then some (nthL (cellsL u) o) else none)
  else none

theorem sel_load {t : Nat} {i : TI} (h : TOK P t i) {Z : Nat → Prop} {w : World} {ν : Nat → Value} {u v : AV} {b o q : Nat} {es : List Value} (hr : R Z w u ν false es) (hc : ∀ (j : Nat) c, es[j]? = some c → w.cell? ⟨b, q + j, none⟩ = some c)
    (hs : selv i u o = some v) : ∃ x, (Instr.loadAt t (.pointer (some ⟨b, q + o, none⟩))).run P w = .ok x w ∧ R Z w v ν true [x] := by
  unfold selv at hs
  split at hs
  · rename_i hcond
    simp only [Bool.and_eq_true, Nat.ble_eq] at hcond
    obtain ⟨⟨hv, hp⟩, hle⟩ := hcond
    have hr' := R_cells hv hr
    have hlen := R_len hp hr'
    cases hk : i.k with
    | str fs =>
      have : i.isStr = true := by simp [TI.isStr, hk]
      rw [if_pos this] at hs
      cases hs
      refine ⟨.agg ((es.drop o).take i.size).toArray, ?_, _, rfl, R_take (R_drop hr' (by omega)) ?_⟩
      · refine load_str h hk (by simp; omega) fun j c hj => ?_
        have hjs : j < i.size := by
          have := (List.getElem?_eq_some_iff.1 hj).1
          simp at this; omega
        rw [List.getElem?_take, if_pos hjs, List.getElem?_drop] at hj
        rw [Nat.add_assoc]; exact hc _ c hj
      · have := R_len hp hr'
        have : ∀ (l : AV) (o : Nat), o ≤ lenL l → lenL (dropL l o) = lenL l - o := by
          intro l
          induction l with
          | cons h t _ ih => intro o ho; cases o with
            | zero => rfl
            | succ o => simp only [dropL, lenL] at ho ⊢; rw [ih o (by omega)]; omega
          | _ => intro o ho; simp only [lenL] at ho; obtain rfl : o = 0 := by omega
                 rfl
        rw [this _ _ (by omega)]; omega
    | leaf =>
      have : i.isStr = false := by simp [TI.isStr, hk]
      rw [if_neg (by simp [this])] at hs
      split at hs
      · rename_i h1
        have h1 := Nat.eq_of_beq_eq_true h1
        cases hs
        obtain ⟨x, hx, rx⟩ := R_nth (i := o) hr' (by omega)
        exact ⟨x, load_leaf h (by simp [hk]) (hc o x hx), rx⟩
      · cases hs
    | bool =>
      have : i.isStr = false := by simp [TI.isStr, hk]
      rw [if_neg (by simp [this])] at hs
      split at hs
      · rename_i h1
        have h1 := Nat.eq_of_beq_eq_true h1
        cases hs
        obtain ⟨x, hx, rx⟩ := R_nth (i := o) hr' (by omega)
        exact ⟨x, load_leaf h (by simp [hk]) (hc o x hx), rx⟩
      · cases hs
    | slc e =>
      have : i.isStr = false := by simp [TI.isStr, hk]
      rw [if_neg (by simp [this])] at hs
      split at hs
      · rename_i h1
        have h1 := Nat.eq_of_beq_eq_true h1
        cases hs
        obtain ⟨x, hx, rx⟩ := R_nth (i := o) hr' (by omega)
        exact ⟨x, load_leaf h (by simp [hk]) (hc o x hx), rx⟩
      · cases hs
    | map =>
      have : i.isStr = false := by simp [TI.isStr, hk]
      rw [if_neg (by simp [this])] at hs
      split at hs
      · rename_i h1
        have h1 := Nat.eq_of_beq_eq_true h1
        cases hs
        obtain ⟨x, hx, rx⟩ := R_nth (i := o) hr' (by omega)
        exact ⟨x, load_leaf h (by simp [hk]) (hc o x hx), rx⟩
      · cases hs
  · cases hs

theorem men_sel {i : TI} {u v : AV} {o : Nat} {μ : Nat → Bool} (hm : men μ u = true) (hs : selv i u o = some v) : men μ v = true := by
  unfold selv at hs
  split at hs
  · split at hs
    · cases hs; exact men_take (men_drop (men_cells hm))
    · split at hs
      · cases hs; exact men_nth (men_cells hm)
      · cases hs
  · cases hs
end

end Go.Proofs.Ytgminhedbeblpaa.Cal
