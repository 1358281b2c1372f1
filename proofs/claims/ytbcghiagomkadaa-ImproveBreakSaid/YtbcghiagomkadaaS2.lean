/- Own texts of the proof, merged, in order. -/
import Derived.IntWalk
import Derived.Shelf.Abstract
import Derived.Laws.Tables
import Derived.Test.YtbcghiagomkadaaS1
set_option linter.unusedVariables false
set_option linter.unusedSimpArgs false
namespace Go.Proofs.Ytbcghiagomkadaa.Cal
open Go
inductive TK where
  | leaf
  | bool
  | slc (e : Nat)
  | str (fs : List (Nat × Nat × Bool))
  | map
structure TI where
  k : TK
  size : Nat
  bytes : Nat
  zero : AV
def isAg : AV → Bool
  | .agg _ => true
  | _ => false
def isAgD : TypeDesc → Bool
  | .struct _ | .array _ _ => true
  | _ => false
/-- A map from numbers to numbers. -/
def MapOK (P : Program) (t : Nat) : Prop := ∃ k e, P.underlying t = some (.map k e) ∧ P.underlying k = some (.int .i64) ∧ ∃ inf, P.info? e = some inf ∧ inf.zero = some (.int .i64 0)
/-- The table says of type t what the program's own says. -/
structure TOK (P : Program) (t : Nat) (i : TI) : Prop where
  info : ∃ inf, P.info? t = some inf ∧ inf.size = i.size ∧ inf.bytes = i.bytes ∧ ∃ z, inf.zero = some z ∧ z.cells.size = i.size ∧ (isAg i.zero = false → z.cells = #[z]) ∧ (∀ y, y ∈ z.cells.toList → y.oneCell' = true) ∧ ∀ Z w ν, R Z w i.zero ν false z.cells.toList
  leaf : i.k = .leaf → ∃ d, P.underlying t = some d ∧ isAgD d = false
  bool : i.k = .bool → P.underlying t = some .bool
  slc : ∀ e, i.k = .slc e → P.underlying t = some (.slice e)
  str : ∀ fs, i.k = .str fs → ∃ arr : Array Field, P.underlying t = some (.struct arr) ∧ arr.size = fs.length ∧ ∀ (f o s : Nat) (g : Bool), fs[f]? = some (o, s, g) → ∃ fd : Field, arr[f]? = some fd ∧ fd.offset = o ∧ 0 < s ∧ ∃ inf, P.info? fd.type = some inf ∧ inf.size = s
  map : i.k = .map → MapOK P t
def TabOK (P : Program) (tb : Nat → Option TI) : Prop := ∀ t i, tb t = some i → TOK P t i
/-! ### Lists of abstract values -/
def nthL : AV → Nat → AV
  | .cons h _, 0 => h
  | .cons _ t, n + 1 => nthL t n
  | _, _ => .any
def dropL : AV → Nat → AV
  | x, 0 => x
  | .cons _ t, n + 1 => dropL t n
  | x, _ => x
def takeL : AV → Nat → AV
  | _, 0 => .nil
  | .cons h t, n + 1 => .cons h (takeL t n)
  | x, _ => x
def lenL : AV → Nat
  | .cons _ t => lenL t + 1
  | _ => 0
def properL : AV → Bool
  | .nil => true
  | .cons _ t => properL t
  | _ => false
def setL : AV → Nat → AV → AV
  | .cons _ t, 0, v => .cons v t
  | .cons h t, n + 1, v => .cons h (setL t n v)
  | x, _, _ => x
def appL : AV → AV → AV
  | .cons h t, x => .cons h (appL t x)
  | _, x => x
def cellsL : AV → AV
  | .agg l => l
  | v => .cons v .nil
/-- It is one value. -/
def isV : AV → Bool
  | .nil => false
  | .cons _ _ => false
  | .whn _ u => isV u
  | _ => true
theorem Zhl {Z : Nat → Prop} {w : World} {u : AV} {ν : Nat → Value} {cs : List Value} (h : isAg u = false) : R Z w u ν false cs ↔ R Z w u ν true cs := by
  cases u <;> first | exact Iff.rfl | cases h
theorem R_isV {Z : Nat → Prop} {w : World} {ν : Nat → Value} : ∀ {u : AV} {cs : List Value}, isV u = true → R Z w u ν true cs → ∃ v, cs = [v] := by
  intro u
  induction u with
  | whn g u ih =>
    intro cs h hr
    cases g with
    | true => exact ih h (hr.1 rfl)
    | false => exact ⟨_, hr.2 rfl⟩
  | nil => intro cs h; cases h
  | cons a b _ _ => intro cs h; cases h
  | any => intro cs _ h; exact h
  | int k n => intro cs _ h; exact ⟨_, h⟩
  | bool b => intro cs _ h; exact ⟨_, h⟩
  | cst v => intro cs _ h; exact ⟨_, h⟩
  | own k => intro cs _ h; exact ⟨_, h⟩
  | adr k sz i o => intro cs _ h; obtain ⟨b, f, _, e⟩ := h; exact ⟨_, e⟩
  | roI xs => intro cs _ h; obtain ⟨A, cap, e, _⟩ := h; exact ⟨_, e⟩
  | roB xs => intro cs _ h; obtain ⟨A, cap, e, _⟩ := h; exact ⟨_, e⟩
  | roII xs => intro cs _ h; obtain ⟨A, cap, e, _⟩ := h; exact ⟨_, e⟩
  | ro sz n f _ => intro cs _ h; obtain ⟨A, cap, e, _⟩ := h; exact ⟨_, e⟩
  | rop u _ => intro cs _ h; obtain ⟨b, o, e, _⟩ := h; exact ⟨_, e⟩
  | agg l _ => intro cs _ h; obtain ⟨es, e, _⟩ := h; exact ⟨_, e⟩
  | tup l _ => intro cs _ h; obtain ⟨es, e, _⟩ := h; exact ⟨_, e⟩
  | fn f c _ => intro cs _ h; obtain ⟨es, e, _⟩ := h; exact ⟨_, e⟩
  | yld k => intro cs _ h; obtain ⟨l, _, e⟩ := h; exact ⟨_, e⟩
theorem Zho {Z : Nat → Prop} {w : World} {ν : Nat → Value} : ∀ {l : AV} {i : Nat} {cs : List Value}, R Z w l ν true cs → i < lenL l → ∃ v, cs[i]? = some v ∧ R Z w (nthL l i) ν true [v] := by
  intro l
  induction l with
  | cons h t _ ih =>
    intro i cs hr hi
    obtain ⟨v, vs, rfl, r1, r2⟩ := hr
    cases i with
    | zero => exact ⟨v, rfl, r1⟩
    | succ i => exact ih r2 (by simp only [lenL] at hi; omega)
  | _ => intro i cs _ hi; simp only [lenL] at hi; omega
theorem Zhm {Z : Nat → Prop} {w : World} {ν : Nat → Value} : ∀ {l : AV} {i : Nat} {cs : List Value}, R Z w l ν true cs → i ≤ lenL l → R Z w (dropL l i) ν true (cs.drop i) := by
  intro l
  induction l with
  | cons h t _ ih =>
    intro i cs hr hi
    cases i with
    | zero => exact hr
    | succ i =>
      obtain ⟨v, vs, rfl, r1, r2⟩ := hr
      exact ih r2 (by simp only [lenL] at hi; omega)
  | _ => intro i cs hr hi; simp only [lenL] at hi; obtain rfl : i = 0 := by omega
         exact hr
theorem Zhk {Z : Nat → Prop} {w : World} {ν : Nat → Value} : ∀ {l : AV} {i : Nat} {cs : List Value}, R Z w l ν true cs → i ≤ lenL l → R Z w (takeL l i) ν true (cs.take i) := by
  intro l
  induction l with
  | cons h t _ ih =>
    intro i cs hr hi
    cases i with
    | zero => show cs.take 0 = []; simp
    | succ i =>
      obtain ⟨v, vs, rfl, r1, r2⟩ := hr
      exact ⟨v, vs.take i, rfl, r1, ih r2 (by simp only [lenL] at hi; omega)⟩
  | _ => intro i cs hr hi; simp only [lenL] at hi; obtain rfl : i = 0 := by omega
         show cs.take 0 = []; simp
theorem Zfq {Z : Nat → Prop} {w : World} {ν : Nat → Value} : ∀ {l : AV} {cs : List Value}, properL l = true → R Z w l ν true cs → cs.length = lenL l := by
  intro l
  induction l with
  | cons h t _ ih =>
    intro cs hp hr
    obtain ⟨v, vs, rfl, r1, r2⟩ := hr
    simp only [lenL, List.length_cons, ih hp r2]
  | nil => intro cs _ hr; rw [show cs = [] from hr]; rfl
  | _ => intro cs hp; cases hp
theorem Zdl : ∀ {l : AV} {i : Nat}, i ≤ lenL l → properL (takeL l i) = true := by
  intro l
  induction l with
  | cons h t _ ih => intro i hi; cases i with
    | zero => rfl
    | succ i => simp only [takeL, properL]; rw [ih (by simp only [lenL] at hi; omega)]
  | _ => intro i hi; simp only [lenL] at hi; obtain rfl : i = 0 := by omega
         rfl
theorem Zg7 {μ : Nat → Bool} : ∀ {l : AV} {i : Nat}, men μ l = true → men μ (nthL l i) = true := by
  intro l
  induction l with
  | cons h t _ ih => intro i hm; simp only [men, Bool.and_eq_true] at hm; cases i with
    | zero => exact hm.1
    | succ i => exact ih hm.2
  | _ => intro i _; rfl
theorem Ze3 {μ : Nat → Bool} : ∀ {l : AV} {i : Nat}, men μ l = true → men μ (dropL l i) = true := by
  intro l
  induction l with
  | cons h t _ ih => intro i hm; cases i with
    | zero => exact hm
    | succ i => simp only [men, Bool.and_eq_true] at hm; exact ih hm.2
  | _ => intro i hm; cases i <;> exact hm
theorem Ze1 {μ : Nat → Bool} : ∀ {l : AV} {i : Nat}, men μ l = true → men μ (takeL l i) = true := by
  intro l
  induction l with
  | cons h t _ ih => intro i hm; cases i with
    | zero => rfl
    | succ i => simp only [men, takeL, Bool.and_eq_true] at hm ⊢; exact ⟨hm.1, ih hm.2⟩
  | _ => intro i hm; cases i <;> first | rfl | exact hm
theorem Zce {μ : Nat → Bool} {u : AV} (h : men μ u = true) : men μ (cellsL u) = true := by
  cases u <;> simp_all [men, cellsL]
theorem Zfr {Z : Nat → Prop} {w : World} {ν : Nat → Value} {u : AV} {cs : List Value} (hv : isV u = true) (h : R Z w u ν false cs) : R Z w (cellsL u) ν true cs := by
  cases u with
  | agg l => exact h
  | nil => cases hv
  | cons a b => cases hv
  | _ =>
    have h' := (Zhl (by rfl)).1 h
    obtain ⟨v, rfl⟩ := R_isV hv h'
    exact ⟨v, [], rfl, h', rfl⟩
/-! ### Reading -/
theorem Zcx {w : World} {b : Nat} {cells : Array Value} {T : TypeId} {fr : Nat × Nat} {j : Nat} {c : Value} (h : w.heap[b]? = some (.cells cells T fr)) (hj : cells[j]? = some c) : w.cell? ⟨b, j, none⟩ = some c := by
  simp [World.cell?, h, hj]
section
variable {P : Program}
theorem Zdg {t : Nat} {d : TypeDesc} (h1 : P.underlying t = some d) (h2 : isAgD d = false) (w : World) : (isAgg t).run P w = .ok false w := by
  cases d <;> first | (cases h2; done) | simp [isAgg, Sem.run_bind, run_underlying h1, Result.andThen, Sem.run]
theorem isAgg_leaf {t : Nat} {i : TI} (h : TOK P t i) (hk : ∀ fs, i.k ≠ .str fs) (w : World) : (isAgg t).run P w = .ok false w := by
  cases hk' : i.k with
  | leaf => obtain ⟨d, h1, h2⟩ := h.leaf hk'; exact Zdg h1 h2 w
  | slc e => exact Zdg (h.slc e hk') rfl w
  | bool => exact Zdg (h.bool hk') rfl w
  | map => obtain ⟨_, _, h1, _⟩ := h.map hk'; exact Zdg h1 rfl w
  | str fs => exact absurd hk' (hk fs)
theorem isAgg_str {t : Nat} {i : TI} (h : TOK P t i) {fs : List (Nat × Nat × Bool)} (hk : i.k = .str fs) (w : World) : (isAgg t).run P w = .ok true w := by
  obtain ⟨arr, h1, _⟩ := h.str fs hk
  simp [isAgg, Sem.run_bind, run_underlying h1, Result.andThen]
theorem Zb2 {t : Nat} {i : TI} (h : TOK P t i) (w : World) : (sizeOf t).run P w = .ok i.size w := by
  obtain ⟨inf, h1, h2, _⟩ := h.info
  simp [sizeOf, typeInfo, Sem.run_bind, h1, h2, Result.andThen, program, Sem.run]
theorem Zcj {t : Nat} {i : TI} (h : TOK P t i) (hk : ∀ fs, i.k ≠ .str fs) {w : World} {a : Addr} {v : Value} (hc : w.cell? a = some v) : (Instr.loadAt t (.pointer (some a))).run P w = .ok v w := by
  simp [Instr.loadAt, Instr.sureAddr, loadVar, Sem.run_bind, isAgg_leaf h hk, Result.andThen, load, Sem.run, hc]
theorem load_str {t : Nat} {i : TI} (h : TOK P t i) {fs : List (Nat × Nat × Bool)} (hk : i.k = .str fs) {w : World} {b o : Nat} {es : List Value} (hl : es.length = i.size) (hc : ∀ (j : Nat) c, es[j]? = some c → w.cell? ⟨b, o + j, none⟩ = some c) :
    (Instr.loadAt t (.pointer (some ⟨b, o, none⟩))).run P w = .ok (.agg es.toArray) w := by
  have := run_loadCells_list (P := P) w ⟨b, o, none⟩ es (fun j v hv => by rw [Addr.add_lit]; exact hc j v hv)
  rw [hl] at this
  simp [Instr.loadAt, Instr.sureAddr, loadVar, Sem.run_bind, isAgg_str h hk, Zb2 h, Result.andThen, this]
def TI.isStr (i : TI) : Bool := match i.k with | .str _ => true | _ => false
/-- What is read of a variable u (its cells from o on) as type i. -/
def selv (i : TI) (u : AV) (o : Nat) : Option AV :=
  if isV u && properL (cellsL u) && Nat.ble (o + i.size) (lenL (cellsL u)) then
    (if i.isStr then some (.agg (takeL (dropL (cellsL u) o) i.size)) else if Nat.beq i.size 1 then some (nthL (cellsL u) o) else none)
  else none
theorem Zed {t : Nat} {i : TI} (h : TOK P t i) {Z : Nat → Prop} {w : World} {ν : Nat → Value} {u v : AV} {b o q : Nat} {es : List Value} (hr : R Z w u ν false es) (hc : ∀ (j : Nat) c, es[j]? = some c → w.cell? ⟨b, q + j, none⟩ = some c)
    (hs : selv i u o = some v) : ∃ x, (Instr.loadAt t (.pointer (some ⟨b, q + o, none⟩))).run P w = .ok x w ∧ R Z w v ν true [x] := by
  unfold selv at hs
  split at hs
  · rename_i hcond
    simp only [Bool.and_eq_true, Nat.ble_eq] at hcond
    obtain ⟨⟨hv, hp⟩, hle⟩ := hcond
    have hr' := Zfr hv hr
    have hlen := Zfq hp hr'
    cases hk : i.k with
    | str fs =>
      have : i.isStr = true := by simp [TI.isStr, hk]
      rw [if_pos this] at hs
      cases hs
      refine ⟨.agg ((es.drop o).take i.size).toArray, ?_, _, rfl, Zhk (Zhm hr' (by omega)) ?_⟩
      · refine load_str h hk (by simp; omega) fun j c hj => ?_
        have hjs : j < i.size := by
          have := (List.getElem?_eq_some_iff.1 hj).1
          simp at this; omega
        rw [List.getElem?_take, if_pos hjs, List.getElem?_drop] at hj
        rw [Nat.add_assoc]; exact hc _ c hj
      · have := Zfq hp hr'
        have : ∀ (l : AV) (o : Nat), o ≤ lenL l → lenL (dropL l o) = lenL l - o := by
          intro l
          induction l with
          | cons h t _ ih => intro o ho; cases o with
            | zero => rfl
            | succ o => simp only [dropL, lenL] at ho ⊢; rw [ih o (by omega)]; omega
          | _ => intro o ho; simp only [lenL] at ho; obtain rfl : o = 0 := by omega
                 rfl
        rw [this _ _ (by omega)]; omega
    | leaf =>
      have : i.isStr = false := by simp [TI.isStr, hk]
      rw [if_neg (by simp [this])] at hs
      split at hs
      · rename_i h1
        have h1 := Nat.eq_of_beq_eq_true h1
        cases hs
        obtain ⟨x, hx, rx⟩ := Zho (i := o) hr' (by omega)
        exact ⟨x, Zcj h (by simp [hk]) (hc o x hx), rx⟩
      · cases hs
    | bool =>
      have : i.isStr = false := by simp [TI.isStr, hk]
      rw [if_neg (by simp [this])] at hs
      split at hs
      · rename_i h1
        have h1 := Nat.eq_of_beq_eq_true h1
        cases hs
        obtain ⟨x, hx, rx⟩ := Zho (i := o) hr' (by omega)
        exact ⟨x, Zcj h (by simp [hk]) (hc o x hx), rx⟩
      · cases hs
    | slc e =>
      have : i.isStr = false := by simp [TI.isStr, hk]
      rw [if_neg (by simp [this])] at hs
      split at hs
      · rename_i h1
        have h1 := Nat.eq_of_beq_eq_true h1
        cases hs
        obtain ⟨x, hx, rx⟩ := Zho (i := o) hr' (by omega)
        exact ⟨x, Zcj h (by simp [hk]) (hc o x hx), rx⟩
      · cases hs
    | map =>
      have : i.isStr = false := by simp [TI.isStr, hk]
      rw [if_neg (by simp [this])] at hs
      split at hs
      · rename_i h1
        have h1 := Nat.eq_of_beq_eq_true h1
        cases hs
        obtain ⟨x, hx, rx⟩ := Zho (i := o) hr' (by omega)
        exact ⟨x, Zcj h (by simp [hk]) (hc o x hx), rx⟩
      · cases hs
  · cases hs
theorem Zfm {i : TI} {u v : AV} {o : Nat} {μ : Nat → Bool} (hm : men μ u = true) (hs : selv i u o = some v) : men μ v = true := by
  unfold selv at hs
  split at hs
  · split at hs
    · cases hs; exact Ze1 (Ze3 (Zce hm))
    · split at hs
      · cases hs; exact Zg7 (Zce hm)
      · cases hs
  · cases hs
end
end Go.Proofs.Ytbcghiagomkadaa.Cal
namespace Go.Proofs.Ytbcghiagomkadaa.Cal
open Go
def lkr (l : List (Nat × Option Blk)) (k : Nat) : Option Blk := match lko l k with | some b => b | none => none
abbrev Evp := Option (AV × List (Nat × Blk) × Prop)
def subv (u : AV) (o sz : Nat) (g : Bool) : Option AV :=
  if isV u && properL (cellsL u) && Nat.ble (o + sz) (lenL (cellsL u)) then (if g then some (.agg (takeL (dropL (cellsL u) o) sz)) else if Nat.beq sz 1 && !isAg (nthL (cellsL u) o) then some (nthL (cellsL u) o) else none) else none
def evLoad (i : TI) (rs : List (Nat × Option Blk)) : AV → Evp
  | .rop u => match selv i u 0 with | some v => some (v, [], True) | none => none
  | .own k => match lkr rs k with
    | some (.box u) => match selv i u 0 with | some v => some (v, [(k, .box u)], True) | none => none
    | _ => none
  | .adr k sz ix o => match lkr rs k with
    | some (.box u) => match sz with | 0 => (match selv i u o with | some v => some (v, [(k, .box u)], True) | none => none) | _ => none
    | some (.ints xs) => if !i.isStr && Nat.beq sz 1 && Nat.beq o 0 then some (.int .i64 (xs.getD ix 0), [(k, .ints xs)], ix < xs.length) else none
    | some (.bools xs) => if !i.isStr && Nat.beq sz 1 && Nat.beq o 0 then some (.bool (xs.getD ix false), [(k, .bools xs)], ix < xs.length) else none
    | some (.rowsR xs) => if !i.isStr && Nat.beq sz 1 && Nat.beq o 0 then some (.roI (xs.getD ix []), [(k, .rowsR xs)], ix < xs.length) else none
    | some (.avs s n f) => if Nat.beq s sz then match selv i (f ix) o with | some v => some (v, [(k, .avs s n f)], ix < n) | none => none else none
    | _ => none
  | _ => none
def evField (fs : List (Nat × Nat × Bool)) (f : Nat) (rs : List (Nat × Option Blk)) (x : AV) : Evp :=
  match fs[f]? with
  | some (o, sz, g) => match x with
    | .rop u => match subv u o sz g with | some v => some (.rop v, [], True) | none => none
    | .own k => match lkr rs k with | some (.box u) => some (.adr k 0 0 o, [(k, .box u)], True) | _ => none
    | .adr k sz' ix o' => some (.adr k sz' ix (o' + o), [], True)
    | _ => none
  | none => none
def evIndex (sz : Nat) (rs : List (Nat × Option Blk)) (x : AV) (z : Int) : Evp :=
  match x with
  | .roI xs => match sz with | 1 => some (.rop (.int .i64 (xs.getD z.toNat 0)), [], 0 ≤ z ∧ z < xs.length) | _ => none
  | .roB xs => match sz with | 1 => some (.rop (.bool (xs.getD z.toNat false)), [], 0 ≤ z ∧ z < xs.length) | _ => none
  | .roII xs => match sz with | 1 => some (.rop (.roI (xs.getD z.toNat [])), [], 0 ≤ z ∧ z < xs.length) | _ => none
  | .ro s n f => if Nat.beq s sz then some (.rop (f z.toNat), [], 0 ≤ z ∧ z < n) else none
  | .own k => match lkr rs k with
    | some (.ints xs) => match sz with | 1 => some (.adr k 1 z.toNat 0, [(k, .ints xs)], 0 ≤ z ∧ z < xs.length) | _ => none
    | some (.bools xs) => match sz with | 1 => some (.adr k 1 z.toNat 0, [(k, .bools xs)], 0 ≤ z ∧ z < xs.length) | _ => none
    | some (.rowsR xs) => match sz with | 1 => some (.adr k 1 z.toNat 0, [(k, .rowsR xs)], 0 ≤ z ∧ z < xs.length) | _ => none
    | some (.rows xs) => match sz with | 1 => some (.adr k 1 z.toNat 0, [(k, .rows xs)], 0 ≤ z ∧ z < xs.length) | _ => none
    | some (.rowsH xs i j) => match sz with | 1 => some (.adr k 1 z.toNat 0, [(k, .rowsH xs i j)], 0 ≤ z ∧ z < xs.length) | _ => none
    | some (.avs s n f) => if Nat.beq s sz then some (.adr k sz z.toNat 0, [(k, .avs s n f)], 0 ≤ z ∧ z < n) else none
    | _ => none
  | _ => none
def inI (n : Int) : Prop := -9223372036854775808 ≤ n ∧ n ≤ 9223372036854775807
def evBin : BinOp → AV → AV → Evp
  | .lss, .int .i64 a, .int .i64 b => some (.bool (decide (a < b)), [], True)
  | .leq, .int .i64 a, .int .i64 b => some (.bool (decide (a ≤ b)), [], True)
  | .gtr, .int .i64 a, .int .i64 b => some (.bool (decide (b < a)), [], True)
  | .geq, .int .i64 a, .int .i64 b => some (.bool (decide (b ≤ a)), [], True)
  | .eql, .int .i64 a, .int .i64 b => some (.bool (decide (a = b)), [], True)
  | .neq, .int .i64 a, .int .i64 b => some (.bool (!decide (a = b)), [], True)
  | .add, .int .i64 a, .int .i64 b => some (.int .i64 (a + b), [], inI (a + b))
  | .sub, .int .i64 a, .int .i64 b => some (.int .i64 (a - b), [], inI (a - b))
  | .mul, .int .i64 a, .int .i64 b => some (.int .i64 (a * b), [], inI (a * b))
  | .rem, .int .i64 a, .int .i64 b => some (.int .i64 (a % b), [], 0 ≤ a ∧ 0 < b)
  | _, _, _ => none
def lenOf (rs : List (Nat × Option Blk)) : AV → Evp
  | .roI xs => some (.int .i64 xs.length, [], True)
  | .roB xs => some (.int .i64 xs.length, [], True)
  | .roII xs => some (.int .i64 xs.length, [], True)
  | .ro _ n _ => some (.int .i64 n, [], True)
  | .cst (.slice _ n _) => some (.int .i64 n, [], True)
  | .own k => match lkr rs k with
    | some (.ints xs) => some (.int .i64 xs.length, [(k, .ints xs)], True)
    | some (.bools xs) => some (.int .i64 xs.length, [(k, .bools xs)], True)
    | some (.rowsR xs) => some (.int .i64 xs.length, [(k, .rowsR xs)], True)
    | some (.rows xs) => some (.int .i64 xs.length, [(k, .rows xs)], True)
    | some (.avs s n f) => some (.int .i64 n, [(k, .avs s n f)], True)
    | _ => none
  | _ => none
/-- It takes one cell (or is a struct). -/
def isC : AV → Bool
  | .int _ _ => true
  | .bool _ => true
  | .own _ => true
  | .adr _ _ _ _ => true
  | .roI _ => true
  | .roB _ => true
  | .roII _ => true
  | .ro _ _ _ => true
  | .rop _ => true
  | .fn _ _ => true
  | .yld _ => true
  | .cst v => match v with | .agg _ => false | .tuple _ => false | _ => true
  | .agg _ => true
  | _ => false
/-- The parts of a struct laid into its cells. -/
def fillL (fs : List (Nat × Nat × Bool)) : AV → List (Nat × AV) → Option AV
  | l, [] => some l
  | l, (f, v) :: r => match fs[f]? with
    | some (o, sz, _) => if isC v && properL (cellsL v) && Nat.beq (lenL (cellsL v)) sz && Nat.ble (o + sz) (lenL l) then fillL fs (appL (takeL l o) (appL (cellsL v) (dropL l (o + sz)))) r else none
    | none => none
theorem Zdt {w : World} {x : Value} {sz n : Nat} {g : Nat → List Value → Prop} {F : Nat → Prop} (h : row w x sz n g F) {j : Nat} (hj : j < n) :
    ∃ b f cap, x = .slice (some ⟨b, f, none⟩) n cap ∧ ∃ es, g j es ∧ es.length = sz ∧ ∀ (i : Nat) c, es[i]? = some c → w.cell? ⟨b, f + (j * sz + i), none⟩ = some c := by
  rcases h with ⟨_, h0, _⟩ | ⟨b, f, cap, cells, T, hx, _, _, hh, _, _, hc⟩
  · omega
  · obtain ⟨es, g1, g2, g3⟩ := hc j hj
    exact ⟨b, f, cap, hx, es, g1, g2, fun i c hi => Zcx hh (g3 i c hi)⟩
theorem Zf8 {w : World} {x : Value} {sz n : Nat} {g : Nat → List Value → Prop} {F : Nat → Prop} (h : row w x sz n g F) : ∃ A cap, x = .slice A n cap := by
  rcases h with ⟨h0, h1, _⟩ | ⟨b, f, cap, cells, T, hx, _⟩
  · subst h1; exact ⟨none, 0, h0⟩
  · exact ⟨_, _, hx⟩
section
variable {P : Program}
theorem index_some {t e : Nat} {i ie : TI} (h : TOK P t i) (hk : i.k = .slc e) (he : TOK P e ie) {A : Option Addr} {n cap : Nat} {z : Int} (h0 : 0 ≤ z) (h1 : z < n) {b o : Nat} (hA : A = some ⟨b, o, none⟩) (w : World) :
    (Instr.indexAt t (.slice A n cap) (.int .i64 z)).run P w = .ok (.pointer (some ⟨b, o + z.toNat * ie.size, none⟩)) w := by
  subst hA
  have e1 : (⟨b, o, none⟩ : Addr).add (z.toNat * ie.size) = ⟨b, o + z.toNat * ie.size, none⟩ := Addr.add_lit ..
  simp [Instr.indexAt, asIntOf, Sem.run_bind, run_underlying (h.slc e hk), Result.andThen, h0, h1, Zb2 he, e1]
theorem Zex {t : Nat} {i : TI} (h : TOK P t i) {fs : List (Nat × Nat × Bool)} (hk : i.k = .str fs) {f o sz : Nat} {g : Bool} (hf : fs[f]? = some (o, sz, g)) (b q : Nat) (w : World) :
    (Instr.fieldAt t (.pointer (some ⟨b, q, none⟩)) f).run P w = .ok (.pointer (some ⟨b, q + o, none⟩)) w := by
  obtain ⟨arr, h1, h2, h3⟩ := h.str fs hk
  obtain ⟨fd, h4, h5, h6, inf, h7, h8⟩ := h3 f o sz g hf
  have e1 : (⟨b, q, none⟩ : Addr).add fd.offset = ⟨b, q + o, none⟩ := by rw [h5]; exact Addr.add_lit ..
  have hsz : (sizeOf fd.type).run P w = .ok sz w := by simp [sizeOf, typeInfo, Sem.run_bind, h7, h8, Result.andThen, program, Sem.run]
  have hne : sz ≠ 0 := by omega
  simp [Instr.fieldAt, Instr.sureAddr, Sem.run_bind, run_underlying h1, Result.andThen, h4, fieldPlace, hsz, hne, e1]
end
end Go.Proofs.Ytbcghiagomkadaa.Cal
namespace Go.Proofs.Ytbcghiagomkadaa.Cal
open Go
def ofL (f : Operand → AV) : List Operand → AV
  | [] => .nil
  | x :: t => .cons (f x) (ofL f t)
def cutI (z : AV) : Option Int := match z with | .int .i64 n => some n | _ => none
def bnd (get : Operand → AV) (d : Int) : Option Operand → Option Int
  | none => some d
  | some x => cutI (get x)
/-- xs[lo:hi] of a slice that nobody writes. -/
def evSlice (x : AV) (lo : Int) (hi : Option Int) : Evp :=
  match x with
  | .roI xs => let h := match hi with | some h => h | none => (xs.length : Int)
    some (.roI ((xs.take h.toNat).drop lo.toNat), [], 0 ≤ lo ∧ lo ≤ h ∧ h ≤ xs.length)
  | _ => none
def evp (tb : Nat → Option TI) (get : Operand → AV) (rs : List (Nat × Option Blk)) : Op → Evp
  | .move x => some (get x, [], True)
  | .assign x => some (get x, [], True)
  | .load t a => match tb t with | some i => evLoad i rs (get a) | none => none
  | .fieldAddr s x f => match tb s with
    | some i => match i.k with | .str fs => evField fs f rs (get x) | _ => none
    | none => none
  | .indexAddr t x ix => match tb t with
    | some i => match i.k with
      | .slc e => match tb e with
        | some ie => match get ix with | .int .i64 z => evIndex ie.size rs (get x) z | _ => none
        | none => none
      | _ => none
    | none => none
  | .binOp op t x y _ => match get x, get y with
    | .bool a, .bool b => match tb t with
      | some i => match i.k, op with
        | .bool, .eql => some (.bool (a == b), [], True)
        | .bool, .neq => some (.bool (a != b), [], True)
        | _, _ => none
      | none => none
    | u, v => evBin op u v
  | .unOp op _ x => match op, get x with
    | .not, .bool b => some (.bool (!b), [], True)
    | .neg, .int .i64 n => some (.int .i64 (IntKind.i64.wrap (-n)), [], True)
    | _, _ => none
  | .extract x n => match get x with | .tup l => if Nat.blt n (lenL l) then some (nthL l n, [], True) else none | _ => none
  | .build t parts => match tb t with
    | some i => match i.k with
      | .str fs => if properL (cellsL i.zero) && isV i.zero && Nat.beq (lenL (cellsL i.zero)) i.size then match fillL fs (cellsL i.zero) (parts.toList.map fun p => (p.1, get p.2)) with | some l => some (.agg l, [], True) | none => none else none
      | _ => none
    | none => none
  | .makeFunc (.func f) first caps => match first.toList with | [] => some (.fn f (ofL get caps.toList), [], True) | _ => none
  | .nilCheck x => match get x with
    | .own k => match lkr rs k with | some (.box u) => some (.own k, [(k, .box u)], True) | _ => none
    | .adr k sz i o => some (.adr k sz i o, [], True)
    | .rop u => some (.rop u, [], True)
    | .fn f c => some (.fn f c, [], True)
    | _ => none
  | .slice t x lo hi none => match tb t with
    | some i => match i.k with
      | .slc e => match tb e with
        | some ie => if Nat.beq ie.size 1 then (match bnd get 0 lo with | some l => (match hi with | none => evSlice (get x) l none | some h => match cutI (get h) with | some h => evSlice (get x) l (some h) | none => none) | none => none) else none
        | none => none
      | _ => none
    | none => none
  | .call c => match c.callee with
    | .builtin .len => match c.args.toList, c.argTypes.toList with
      | [x], [t] => match tb t with
        | some i => match i.k with | .slc _ => lenOf rs (get x) | _ => none
        | none => none
      | _, _ => none
    | .builtin .max => match c.args.toList with
      | [x, y] => match get x, get y with | .int .i64 a, .int .i64 b => some (.int .i64 (max a b), [], True) | _, _ => none
      | [x, y, z] => match get x, get y, get z with | .int .i64 a, .int .i64 b, .int .i64 c => some (.int .i64 (max (max a b) c), [], True) | _, _, _ => none
      | _ => none
    | .builtin .min => match c.args.toList with
      | [x, y] => match get x, get y with | .int .i64 a, .int .i64 b => some (.int .i64 (min a b), [], True) | _, _ => none
      | [x, y, z] => match get x, get y, get z with | .int .i64 a, .int .i64 b, .int .i64 c => some (.int .i64 (min (min a b) c), [], True) | _, _, _ => none
      | _ => none
    | _ => none
  | _ => none
def Says (P : Program) (rs : Rs) (rd : List (Nat × Blk)) (Z : Nat → Prop) (w : World) (ν : Nat → Value) (μ : Nat → Bool) (s : Sem Value) (val : AV) : Prop :=
  (∀ p, p ∈ rd → rs p.1 = some p.2) → ∃ v, s.run P w = .ok v w ∧ R Z w val ν true [v] ∧ men μ val = true
section
variable {P : Program} {K Z : Nat → Prop} {ν : Nat → Value} {w : World} {get : Operand → AV} {ev : Operand → Value} {μ : Nat → Bool} {rs : Rs} {xs : List Operand} {l : List (Nat × Option Blk)}
theorem Zcv {k : Nat} {b : Blk} {rd : List (Nat × Blk)} (hrd : rd = [(k, b)]) (h : ∀ p, p ∈ rd → rs p.1 = some p.2) : rs k = some b := by
  subst hrd; exact h (k, b) (by simp)
theorem Zgx (hg : GoodRs K Z w ν μ rs) {k : Nat} {u : AV} (hk : rs k = some (.box u)) :
    ∃ b cells T, ν k = .pointer (some ⟨b, 0, none⟩) ∧ w.heap[b]? = some (.cells cells T (0, 0)) ∧ R Z w u ν false cells.toList ∧ men μ u = true := by
  obtain ⟨Ft, h⟩ := hg
  obtain ⟨_, h2, ⟨b, cells, T, hx, hb, r, _⟩, _⟩ := h k _ hk
  exact ⟨b, cells, T, hx, hb, r, h2⟩
theorem Zep {b : Nat} {cells : Array Value} {T : TypeId} (hb : w.heap[b]? = some (.cells cells T (0, 0))) : ∀ (j : Nat) c, cells.toList[j]? = some c → w.cell? ⟨b, 0 + j, none⟩ = some c :=
  fun j c hc => by rw [Nat.zero_add]; exact Zcx hb (by simpa using hc)
theorem one1 {v a : Value} (h : [v] = [a]) : v = a := by simpa using h
theorem says_load {t : Nat} {i : TI} (ht : TOK P t i) (hg : GoodRs K Z w ν μ rs) {u v : AV} {x : Value} (hr : R Z w u ν true [x] ∧ men μ u = true) {rd : List (Nat × Blk)} {ob : Prop} (h : evLoad i l u = some (v, rd, ob)) (hob : ob) :
    Says P rs rd Z w ν μ (Instr.loadAt t x) v := by
  intro hrd
  obtain ⟨hr, hm⟩ := hr
  unfold evLoad at h
  split at h
  · rename_i u
    obtain ⟨b, o, e, hz, hmn, es, r, hc⟩ := hr
    obtain rfl := one1 e
    split at h
    · rename_i v' hs
      simp only [Option.some.injEq, Prod.mk.injEq] at h
      obtain ⟨rfl, rfl, rfl⟩ := h
      obtain ⟨y, hy, ry⟩ := Zed (o := 0) ht r hc hs
      have hm' := Zfm hmn hs
      exact ⟨y, hy, Zcl hm' ry, Zbr hm'⟩
    · cases h
  · rename_i k
    obtain rfl := one1 hr
    split at h
    · rename_i u hk
      split at h
      · rename_i v' hs
        simp only [Option.some.injEq, Prod.mk.injEq] at h
        obtain ⟨rfl, rfl, rfl⟩ := h
        obtain ⟨b, cells, T, hx, hb, r, hmu⟩ := Zgx hg (Zcv rfl hrd)
        obtain ⟨y, hy, ry⟩ := Zed (o := 0) ht r (Zep hb) hs
        rw [hx]
        exact ⟨y, hy, ry, Zfm hmu hs⟩
      · cases h
    · cases h
  · rename_i k sz ix o
    obtain ⟨b, f, hbase, e⟩ := hr
    obtain rfl := one1 e
    split at h
    · rename_i u hk
      split at h
      · split at h
        · rename_i v' hs
          simp only [Option.some.injEq, Prod.mk.injEq] at h
          obtain ⟨rfl, rfl, rfl⟩ := h
          obtain ⟨b', cells, T, hx, hb, r, hmu⟩ := Zgx hg (Zcv rfl hrd)
          rw [hx] at hbase
          simp only [baseOf, Option.some.injEq, Prod.mk.injEq] at hbase
          obtain ⟨rfl, rfl⟩ := hbase
          obtain ⟨y, hy, ry⟩ := Zed (o := o) ht r (Zep hb) hs
          refine ⟨y, ?_, ry, Zfm hmu hs⟩
          rw [Nat.mul_zero, Nat.zero_add o]; exact hy
        · cases h
      · cases h
    · rename_i xs hk
      split at h
      · rename_i hc
        simp only [Bool.and_eq_true, Bool.not_eq_true'] at hc
        obtain ⟨⟨hstr, h1⟩, h2⟩ := hc
        obtain rfl := Nat.eq_of_beq_eq_true h1
        obtain rfl := Nat.eq_of_beq_eq_true h2
        simp only [Option.some.injEq, Prod.mk.injEq] at h
        obtain ⟨rfl, rfl, rfl⟩ := h
        obtain ⟨Ft, hF⟩ := hg
        obtain ⟨_, _, hs, _⟩ := hF k _ (Zcv rfl hrd)
        obtain ⟨b', f', cap, hx, es, rfl, _, hcell⟩ := Zdt hs hob
        rw [hx] at hbase
        simp only [baseOf, Option.some.injEq, Prod.mk.injEq] at hbase
        obtain ⟨rfl, rfl⟩ := hbase
        exact ⟨_, Zcj ht (fun fs hk => by simp [TI.isStr, hk] at hstr) (hcell 0 _ rfl), rfl, rfl⟩
      · cases h
    · rename_i xs hk
      split at h
      · rename_i hc
        simp only [Bool.and_eq_true, Bool.not_eq_true'] at hc
        obtain ⟨⟨hstr, h1⟩, h2⟩ := hc
        obtain rfl := Nat.eq_of_beq_eq_true h1
        obtain rfl := Nat.eq_of_beq_eq_true h2
        simp only [Option.some.injEq, Prod.mk.injEq] at h
        obtain ⟨rfl, rfl, rfl⟩ := h
        obtain ⟨Ft, hF⟩ := hg
        obtain ⟨_, _, hs, _⟩ := hF k _ (Zcv rfl hrd)
        obtain ⟨b', f', cap, hx, es, rfl, _, hcell⟩ := Zdt hs hob
        rw [hx] at hbase
        simp only [baseOf, Option.some.injEq, Prod.mk.injEq] at hbase
        obtain ⟨rfl, rfl⟩ := hbase
        exact ⟨_, Zcj ht (fun fs hk => by simp [TI.isStr, hk] at hstr) (hcell 0 _ rfl), rfl, rfl⟩
      · cases h
    · rename_i xs hk
      split at h
      · rename_i hc
        simp only [Bool.and_eq_true, Bool.not_eq_true'] at hc
        obtain ⟨⟨hstr, h1⟩, h2⟩ := hc
        obtain rfl := Nat.eq_of_beq_eq_true h1
        obtain rfl := Nat.eq_of_beq_eq_true h2
        simp only [Option.some.injEq, Prod.mk.injEq] at h
        obtain ⟨rfl, rfl, rfl⟩ := h
        obtain ⟨Ft, hF⟩ := hg
        obtain ⟨_, _, hs, _⟩ := hF k _ (Zcv rfl hrd)
        obtain ⟨b', f', cap, hx, es, hes, hlen, hcell⟩ := Zdt hs hob
        rw [hx] at hbase
        simp only [baseOf, Option.some.injEq, Prod.mk.injEq] at hbase
        obtain ⟨rfl, rfl⟩ := hbase
        obtain ⟨y, rfl⟩ := List.length_eq_one_iff.1 hlen
        exact ⟨y, Zcj ht (fun fs hk => by simp [TI.isStr, hk] at hstr) (hcell 0 _ rfl), hes, rfl⟩
      · cases h
    · rename_i s n fn hk
      split at h
      · rename_i hsz
        obtain rfl := Nat.eq_of_beq_eq_true hsz
        split at h
        · rename_i v' hsel
          simp only [Option.some.injEq, Prod.mk.injEq] at h
          obtain ⟨rfl, rfl, rfl⟩ := h
          obtain ⟨Ft, hF⟩ := hg
          obtain ⟨_, hmb, hs, _⟩ := hF k _ (Zcv rfl hrd)
          obtain ⟨b', f', cap, hx, es, r, hlen, hcell⟩ := Zdt hs hob
          rw [hx] at hbase
          simp only [baseOf, Option.some.injEq, Prod.mk.injEq] at hbase
          obtain ⟨rfl, rfl⟩ := hbase
          obtain ⟨y, hy, ry⟩ := Zed (o := o) (q := f' + ix * s) ht r (fun j c hj => by rw [Nat.add_assoc]; exact hcell j c hj) hsel
          refine ⟨y, ?_, ry, Zfm (hmb ix hob) hsel⟩
          rw [← Nat.add_assoc]; exact hy
        · cases h
      · cases h
    · cases h
  · cases h
theorem sub_cells {u v : AV} {o sz : Nat} {g : Bool} (hs : subv u o sz g = some v) {es : List Value} (hr : R Z w u ν false es) : ∃ es', R Z w v ν false es' ∧ ∀ (j : Nat) c, es'[j]? = some c → es[o + j]? = some c := by
  unfold subv at hs
  split at hs
  · rename_i hc
    simp only [Bool.and_eq_true, Nat.ble_eq] at hc
    obtain ⟨⟨hv, hp⟩, hle⟩ := hc
    have hr' := Zfr hv hr
    split at hs
    · cases hs
      have hd : ∀ (l : AV) (o : Nat), o ≤ lenL l → lenL (dropL l o) = lenL l - o := by
        intro l
        induction l with
        | cons h t _ ih => intro o ho; cases o with
          | zero => rfl
          | succ o => simp only [dropL, lenL] at ho ⊢; rw [ih o (by omega)]; omega
        | _ => intro o ho; simp only [lenL] at ho; obtain rfl : o = 0 := by omega
               rfl
      refine ⟨(es.drop o).take sz, Zhk (Zhm hr' (by omega)) (by rw [hd _ _ (by omega)]; omega), fun j c hj => ?_⟩
      have hjs : j < sz := by have := (List.getElem?_eq_some_iff.1 hj).1; simp at this; omega
      rwa [List.getElem?_take, if_pos hjs, List.getElem?_drop] at hj
    · split at hs
      · rename_i h1
        simp only [Bool.and_eq_true, Bool.not_eq_true'] at h1
        obtain ⟨h1, ha⟩ := h1
        have h1 := Nat.eq_of_beq_eq_true h1
        cases hs
        obtain ⟨x, hx, rx⟩ := Zho (i := o) hr' (by omega)
        exact ⟨[x], (Zhl ha).2 rx, fun j c hj => by
          cases j with
          | zero => simp at hj; subst hj; exact hx
          | succ j => simp at hj⟩
      · cases hs
  · cases hs
theorem men_sub {u v : AV} {o sz : Nat} {g : Bool} (hm : men μ u = true) (hs : subv u o sz g = some v) : men μ v = true := by
  unfold subv at hs
  split at hs
  · split at hs
    · cases hs; exact Ze1 (Ze3 (Zce hm))
    · split at hs
      · cases hs; exact Zg7 (Zce hm)
      · cases hs
  · cases hs
theorem says_field {t f : Nat} {i : TI} (ht : TOK P t i) {fs : List (Nat × Nat × Bool)} (hk : i.k = .str fs) (hg : GoodRs K Z w ν μ rs) {u v : AV} {x : Value} (hr : R Z w u ν true [x] ∧ men μ u = true) {rd : List (Nat × Blk)} {ob : Prop}
    (h : evField fs f l u = some (v, rd, ob)) : Says P rs rd Z w ν μ (Instr.fieldAt t x f) v := by
  intro hrd
  obtain ⟨hr, hm⟩ := hr
  unfold evField at h
  split at h
  · rename_i o sz g hf
    split at h
    · rename_i u
      obtain ⟨b, q, e, hz, hmn, es, r, hc⟩ := hr
      obtain rfl := one1 e
      split at h
      · rename_i v' hs
        simp only [Option.some.injEq, Prod.mk.injEq] at h
        obtain ⟨rfl, rfl, rfl⟩ := h
        obtain ⟨es', r', hc'⟩ := sub_cells hs r
        exact ⟨_, Zex ht hk hf b q w, ⟨b, q + o, rfl, hz, men_sub hmn hs, es', r', fun j c hj => by rw [Nat.add_assoc]; exact hc _ _ (hc' j c hj)⟩, rfl⟩
      · cases h
    · rename_i k
      obtain rfl := one1 hr
      split at h
      · rename_i u hkk
        simp only [Option.some.injEq, Prod.mk.injEq] at h
        obtain ⟨rfl, rfl, rfl⟩ := h
        obtain ⟨b, cells, T, hx, hb, r, hmu⟩ := Zgx hg (Zcv rfl hrd)
        refine ⟨_, by rw [hx]; exact Zex ht hk hf b 0 w, ⟨b, 0, by rw [hx]; rfl, by simp⟩, hm⟩
      · cases h
    · rename_i k sz' ix o'
      obtain ⟨b, q, hbase, e⟩ := hr
      obtain rfl := one1 e
      simp only [Option.some.injEq, Prod.mk.injEq] at h
      obtain ⟨rfl, rfl, rfl⟩ := h
      exact ⟨_, Zex ht hk hf b _ w, ⟨b, q, hbase, by simp [Nat.add_assoc]⟩, hm⟩
    · cases h
  · cases h
theorem ro_index {t e : Nat} {i ie : TI} (ht : TOK P t i) (hk : i.k = .slc e) (he : TOK P e ie) {g : Nat → List Value → Prop} {n : Nat} {x : Value} (hr : roRow Z w ie.size n g [x]) {z : Int} (hz : 0 ≤ z ∧ z < n) :
    ∃ b q, (Instr.indexAt t x (.int .i64 z)).run P w = .ok (.pointer (some ⟨b, q, none⟩)) w ∧ Z b ∧ ∃ es, g z.toNat es ∧ es.length = ie.size ∧ ∀ (j : Nat) c, es[j]? = some c → w.cell? ⟨b, q + j, none⟩ = some c := by
  obtain ⟨A, cap, e1, h1, h2, h3⟩ := hr
  obtain rfl := one1 e1
  obtain ⟨b, o, hA, hZ, hc⟩ := h3 (by omega)
  obtain ⟨es, g1, g2, g3⟩ := hc z.toNat (by omega)
  exact ⟨b, o + z.toNat * ie.size, index_some ht hk he hz.1 hz.2 hA w, hZ, es, g1, g2, fun j c hj => by rw [Nat.add_assoc]; exact g3 j c hj⟩
theorem own_index {t e : Nat} {i ie : TI} (ht : TOK P t i) (hk : i.k = .slc e) (he : TOK P e ie) {g : Nat → List Value → Prop} {n k : Nat} {F : Nat → Prop} (hr : row w (ν k) ie.size n g F) {z : Int} (hz : 0 ≤ z ∧ z < n) :
    ∃ b f, baseOf (ν k) = some (b, f) ∧ (Instr.indexAt t (ν k) (.int .i64 z)).run P w = .ok (.pointer (some ⟨b, f + (z.toNat * ie.size + 0), none⟩)) w := by
  obtain ⟨b, f, cap, hx, _⟩ := Zdt hr (show z.toNat < n by omega)
  exact ⟨b, f, by rw [hx]; rfl, by rw [hx]; exact index_some ht hk he hz.1 hz.2 rfl w⟩
theorem says_index {t e : Nat} {i ie : TI} (ht : TOK P t i) (hk : i.k = .slc e) (he : TOK P e ie) (hg : GoodRs K Z w ν μ rs) {u v : AV} {x : Value} (hr : R Z w u ν true [x] ∧ men μ u = true) {rd : List (Nat × Blk)} {ob : Prop} {z : Int}
    (h : evIndex ie.size l u z = some (v, rd, ob)) (hob : ob) : Says P rs rd Z w ν μ (Instr.indexAt t x (.int .i64 z)) v := by
  intro hrd
  obtain ⟨hr, hm⟩ := hr
  unfold evIndex at h
  split at h
  case h_1 | h_2 | h_3 =>
    split at h
    · rename_i hsz
      simp only [Option.some.injEq, Prod.mk.injEq] at h
      obtain ⟨rfl, rfl, rfl⟩ := h
      obtain ⟨b, q, h1, h2, es, h3, h4, h5⟩ := ro_index ht hk he (g := _) (by rw [hsz]; exact hr) hob
      exact ⟨_, h1, ⟨b, q, rfl, h2, rfl, es, by first | exact h3 | (obtain ⟨y, rfl⟩ := List.length_eq_one_iff.1 (h4.trans hsz); exact h3), h5⟩, rfl⟩
    · cases h
  case h_4 =>
    rename_i s n fn
    split at h
    · rename_i hs
      obtain rfl := Nat.eq_of_beq_eq_true hs
      simp only [Option.some.injEq, Prod.mk.injEq] at h
      obtain ⟨rfl, rfl, rfl⟩ := h
      obtain ⟨b, q, h1, h2, es, h3, h4, h5⟩ := ro_index ht hk he (g := _) hr hob
      exact ⟨_, h1, ⟨b, q, rfl, h2, h3.1, es, h3.2, h5⟩, rfl⟩
    · cases h
  case h_5 =>
    rename_i k
    obtain rfl := one1 hr
    obtain ⟨Ft, hF⟩ := hg
    split at h
    case h_1 | h_2 | h_3 | h_4 | h_5 =>
      split at h
      · rename_i hsz
        simp only [Option.some.injEq, Prod.mk.injEq] at h
        obtain ⟨rfl, rfl, rfl⟩ := h
        obtain ⟨_, _, hs, _⟩ := hF k _ (Zcv rfl hrd)
        have : ∃ (n : Nat) (g : Nat → List Value → Prop) (F : Nat → Prop), row w (ν k) ie.size n g F ∧ (0 ≤ z ∧ z < (n : Int)) := by
          rw [hsz]
          first
            | exact ⟨_, _, _, hs, hob⟩
            | (obtain ⟨ys, G, F0, h0, _⟩ := hs; exact ⟨_, _, _, h0, hob⟩)
        obtain ⟨n, g, F, hrow, hzn⟩ := this
        obtain ⟨b, f, h1, h2⟩ := own_index ht hk he hrow hzn
        rw [hsz] at h2
        exact ⟨_, h2, ⟨b, f, h1, rfl⟩, hm⟩
      · cases h
    case h_6 =>
      split at h
      · rename_i s n fn _ hsz
        obtain rfl := Nat.eq_of_beq_eq_true hsz
        simp only [Option.some.injEq, Prod.mk.injEq] at h
        obtain ⟨rfl, rfl, rfl⟩ := h
        obtain ⟨_, _, hs, _⟩ := hF k _ (Zcv rfl hrd)
        obtain ⟨b, f, h1, h2⟩ := own_index ht hk he hs hob
        exact ⟨_, h2, ⟨b, f, h1, rfl⟩, hm⟩
      · cases h
    case h_7 => cases h
  case h_6 => cases h
theorem says_bin {op : BinOp} {t : Nat} {u1 u2 v : AV} {x1 x2 : Value} (h1 : R Z w u1 ν true [x1]) (h2 : R Z w u2 ν true [x2]) {rd : List (Nat × Blk)} {ob : Prop} (h : evBin op u1 u2 = some (v, rd, ob)) (hob : ob) (o1 o2 : Operand) :
    Says P rs rd Z w ν μ (do eqGuard op t o1 o2 x1 x2; binOp op t x1 x2) v := by
  intro _
  unfold evBin at h
  split at h <;>
    first
      | (cases h; done)
      | (simp only [Option.some.injEq, Prod.mk.injEq] at h
         obtain ⟨rfl, rfl, rfl⟩ := h
         obtain rfl := one1 h1
         obtain rfl := one1 h2
         refine ⟨_, by simp [eqGuard, binOp, Op.intCmp, Op.intArith, Sem.run_bind, Result.andThen, Sem.run]; rfl, ?_, rfl⟩
         first | exact rfl | exact congrArg (fun b => [Value.bool b]) (by simp) | exact congrArg (fun n => [Value.int .i64 n]) (IntWalk.i64_in _ hob)
               | exact congrArg (fun b => [Value.bool b]) (by simp [bne]; rfl))
      | (simp only [Option.some.injEq, Prod.mk.injEq] at h
         obtain ⟨rfl, rfl, rfl⟩ := h
         obtain rfl := one1 h1
         obtain rfl := one1 h2
         have hb := Int.ne_of_gt hob.2
         refine ⟨_, by simp [eqGuard, binOp, Op.intDiv, Sem.run_bind, Result.andThen, Sem.run, hb]; rfl, ?_, rfl⟩
         exact congrArg (fun n => [Value.int .i64 n]) (Int.tmod_eq_emod_of_nonneg hob.1))
theorem Zf7 {t e : Nat} {i : TI} (ht : TOK P t i) (hk : i.k = .slc e) (A : Option Addr) (n cap : Nat) (ty : TypeId) (w : World) : (Builtin.len_ #[t] ty #[.slice A n cap]).run P w = .ok (.int .i64 n) w := by
  simp [Builtin.len_, Sem.run_bind, run_underlying (ht.slc e hk), Result.andThen, Sem.run, goInt]
theorem says_len {t e : Nat} {i : TI} (ht : TOK P t i) (hk : i.k = .slc e) (hg : GoodRs K Z w ν μ rs) {u v : AV} {x : Value} (hr : R Z w u ν true [x]) {rd : List (Nat × Blk)} {ob : Prop} (h : lenOf l u = some (v, rd, ob)) (ty : TypeId) :
    Says P rs rd Z w ν μ (Builtin.len_ #[t] ty #[x]) v := by
  intro hrd
  unfold lenOf at h
  split at h
  case h_1 | h_2 | h_3 | h_4 =>
    simp only [Option.some.injEq, Prod.mk.injEq] at h
    obtain ⟨rfl, rfl, rfl⟩ := h
    obtain ⟨A, cap, e1, _⟩ := hr
    obtain rfl := one1 e1
    exact ⟨_, Zf7 ht hk _ _ _ _ w, rfl, rfl⟩
  case h_5 =>
    simp only [Option.some.injEq, Prod.mk.injEq] at h
    obtain ⟨rfl, rfl, rfl⟩ := h
    obtain rfl := one1 hr
    exact ⟨_, Zf7 ht hk _ _ _ _ w, rfl, rfl⟩
  case h_6 =>
    obtain rfl := one1 hr
    obtain ⟨Ft, hF⟩ := hg
    split at h <;>
      first
        | (cases h; done)
        | (simp only [Option.some.injEq, Prod.mk.injEq] at h
           obtain ⟨rfl, rfl, rfl⟩ := h
           obtain ⟨_, _, hs, _⟩ := hF _ _ (Zcv rfl hrd)
           first
             | (obtain ⟨A, cap, hx⟩ := Zf8 hs; rw [hx]; exact ⟨_, Zf7 ht hk _ _ _ _ w, rfl, rfl⟩)
             | (obtain ⟨ys, G, F0, h0, _⟩ := hs; obtain ⟨A, cap, hx⟩ := Zf8 h0; rw [hx]; exact ⟨_, Zf7 ht hk _ _ _ _ w, rfl, rfl⟩))
  case h_7 => cases h
theorem Zfg {t e : Nat} {i ie : TI} (ht : TOK P t i) (hk : i.k = .slc e) (he : TOK P e ie) (A : Option Addr) (n cap : Nat) (lo hi : Option Value) (l h : Nat) (hl : (lo = none ∧ l = 0) ∨ lo = some (.int .i64 l)) (hh : (hi = none ∧ h = n) ∨ hi = some (.int .i64 h)) (h1 : l ≤ h) (h2 : h ≤ cap) (w : World) :
    (Instr.sliceAt t (.slice A n cap) lo hi none).run P w = .ok (.slice (if cap = l then A else A.map (·.add (l * ie.size))) (h - l) (cap - l)) w := by
  have hu := run_underlying (ht.slc e hk) w
  have hs := Zb2 he w
  have h3 : (l : Int) ≤ (h : Int) := by omega
  have h4 : (h : Int) ≤ (cap : Int) := by omega
  rcases hl with ⟨rfl, rfl⟩ | rfl <;> rcases hh with ⟨rfl, rfl⟩ | rfl <;>
    simp [Instr.sliceAt, Instr.slice, Instr.sliceBounds, Instr.sliceBound, asIntOf, Sem.run_bind, hu, hs, Result.andThen, Sem.run, h1, h2, h3, h4]
theorem roRow_cut {xs : List Int} {A : Option Addr} {n cap l h : Nat} (hr : roRow Z w 1 xs.length (intAt xs) [.slice A n cap]) (h1 : l ≤ h) (h2 : h ≤ xs.length) :
    roRow Z w 1 ((xs.take h).drop l).length (intAt ((xs.take h).drop l)) [.slice (if cap = l then A else A.map (·.add (l * 1))) (h - l) (cap - l)] := by
  obtain ⟨A', cap', e1, g1, g2, g3⟩ := hr
  simp only [List.cons.injEq, Value.slice.injEq, and_true] at e1
  obtain ⟨rfl, rfl, rfl⟩ := e1
  have hlen : ((xs.take h).drop l).length = h - l := by simp; omega
  rw [hlen]
  refine ⟨_, _, rfl, by omega, by omega, fun hp => ?_⟩
  obtain ⟨b, o, rfl, hz, hc⟩ := g3 (by omega)
  rw [if_neg (by omega)]
  refine ⟨b, o + l * 1, by simp [Addr.add_lit], hz, fun j hj => ?_⟩
  obtain ⟨es, e2, e3, e4⟩ := hc (l + j) (by omega)
  refine ⟨es, ?_, e3, fun i c hi => ?_⟩
  · rw [intAt] at e2 ⊢
    rw [e2]
    congr 2
    simp only [List.getD_eq_getElem?_getD, List.getElem?_drop, List.getElem?_take]
    rw [if_pos (by omega)]
  · have := e4 i c hi
    rw [show o + l * 1 + (j * 1 + i) = o + ((l + j) * 1 + i) from by omega]
    exact this
theorem says_slice {t e : Nat} {i ie : TI} (ht : TOK P t i) (hk : i.k = .slc e) (he : TOK P e ie) (hsz : ie.size = 1) {u v : AV} {x : Value} (hr : R Z w u ν true [x]) {rd : List (Nat × Blk)} {ob : Prop} {lo hi : Option Operand} {lz : Int} {hz : Option Int}
    (hlo : bnd get 0 lo = some lz) (hhi : (hi = none ∧ hz = none) ∨ ∃ y z, hi = some y ∧ cutI (get y) = some z ∧ hz = some z) (hev : ∀ y, lo = some y ∨ hi = some y → R Z w (get y) ν true [ev y]) (h : evSlice u lz hz = some (v, rd, ob)) (hob : ob) :
    Says P rs rd Z w ν μ (Instr.sliceAt t x (lo.map ev) (hi.map ev) none) v := by
  intro _
  have hcut : ∀ {a : AV} {z : Int}, cutI a = some z → a = .int .i64 z := by
    intro a z ha
    unfold cutI at ha
    split at ha
    · simp only [Option.some.injEq] at ha; rw [ha]
    · cases ha
  unfold evSlice at h
  split at h
  · rename_i xs
    simp only [Option.some.injEq, Prod.mk.injEq] at h
    obtain ⟨rfl, rfl, rfl⟩ := h
    obtain ⟨A, cap, e1, g1, g2, g3⟩ := id hr
    obtain rfl := one1 e1
    obtain ⟨o1, o2, o3⟩ := hob
    have hlv : (lo.map ev = none ∧ lz.toNat = 0) ∨ lo.map ev = some (.int .i64 lz.toNat) := by
      cases lo with
      | none => simp only [bnd, Option.some.injEq] at hlo; subst hlo; exact .inl ⟨rfl, rfl⟩
      | some y =>
        have := hev y (.inl rfl)
        rw [hcut hlo] at this
        exact .inr (by simp only [Option.map_some]; rw [one1 this]; congr 2; omega)
    rcases hhi with ⟨rfl, rfl⟩ | ⟨y, z, rfl, hy, rfl⟩
    · simp only at o2 o3 ⊢
      have e : ((xs.length : Int)).toNat = xs.length := by omega
      refine ⟨_, Zfg ht hk he A xs.length cap _ _ lz.toNat xs.length hlv (.inl ⟨rfl, rfl⟩) (by omega) (by omega) w, ?_, rfl⟩
      rw [hsz, e]
      exact roRow_cut (n := xs.length) hr (by omega) (by omega)
    · simp only at o2 o3 ⊢
      have := hev y (.inr rfl)
      rw [hcut hy] at this
      refine ⟨_, Zfg ht hk he A xs.length cap _ _ lz.toNat z.toNat hlv (.inr (by simp only [Option.map_some]; rw [one1 this]; congr 2; omega)) (by omega) (by omega) w, ?_, rfl⟩
      rw [hsz]
      exact roRow_cut (n := xs.length) hr (by omega) (by omega)
  · cases h
end
end Go.Proofs.Ytbcghiagomkadaa.Cal
