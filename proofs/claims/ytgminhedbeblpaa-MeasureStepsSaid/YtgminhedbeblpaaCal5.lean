/- What single operations come to, over abstract values: the table of those that change nothing, and that it is right. -/
import Derived.Test.YtgminhedbeblpaaCal4
set_option linter.unusedVariables false
set_option linter.unusedSimpArgs false
namespace Go.Proofs.Ytgminhedbeblpaa.Cal
open Go

def lkr (l : List (Nat × Option Blk)) (k : Nat) : Option Blk := match lko l k with | some b => b | none => none
abbrev Evp := Option (AV × List (Nat × Blk) × Prop)

def subv (u : AV) (o sz : Nat) (g : Bool) : Option AV :=
  if isV u && properL (cellsL u) && Nat.ble (o + sz) (lenL (cellsL u)) then (if g then some (.agg (takeL (dropL (cellsL u) o) sz)) else if Nat.beq sz 1 && !isAg (nthL (cellsL u) o) then some (nthL (cellsL u) o) else none) else none

def evLoad (i : TI) (rs : List (Nat × Option Blk)) : AV → Evp
  | .rop u => match selv i u 0 with | some v => some (v, [], True) | none => none
  | .own k => match lkr rs k with
    | some (.box u) => match selv i u 0 with | some v => some (v, [(k, .box u)], True) | none => none
    | _ => none
  | .adr k sz ix o => match lkr rs k with
    | some (.box u) => match sz with | 0 => (match selv i u o with | some v => some (v, [(k, .box u)], True) | none => none) | _ => none
    | some (.ints xs) => if !i.isStr && Nat.beq sz 1 && Nat.beq o 0 then some (.int .i64 (xs.getD ix 0), [(k, .ints xs)], ix < xs.length) else none
    | some (.bools xs) => if !i.isStr && Nat.beq sz 1 && Nat.beq o 0 then some (.bool (xs.getD ix false), [(k, .bools xs)], ix < xs.length) else none
    | some (.rowsR xs) => if !i.isStr && Nat.beq sz 1 && Nat.beq o 0 then some (.roI (xs.getD ix []), [(k, .rowsR xs)], ix < xs.length) else none
    | some (.avs s n f) => if Nat.beq s sz then match selv i (f ix) o with | some v => some (v, [(k, .avs s n f)], ix < n) | none => none else none
    | _ => none
  | _ => none

def evField (fs : List (Nat × Nat × Bool)) (f : Nat) (rs : List (Nat × Option Blk)) (x : AV) : Evp :=
  match fs[f]? with
  | some (o, sz, g) => match x with
    | .rop u => match subv u o sz g with | some v => some (.rop v, [], True) | none => none
    | .own k => match lkr rs k with | some (.box u) => some (.adr k 0 0 o, [(k, .box u)], True) | _ => none
    | .adr k sz' ix o' => some (.adr k sz' ix (o' + o), [], True)
    | _ => none
  | none => none

def evIndex (sz : Nat) (rs : List (Nat × Option Blk)) (x : AV) (z : Int) : Evp :=
  match x with
  | .roI xs => match sz with | 1 => some (.rop (.int .i64 (xs.getD z.toNat 0)), [], 0 ≤ z ∧ z < xs.length) | _ => none
  | .roB xs => match sz with | 1 => some (.rop (.bool (xs.getD z.toNat false)), [], 0 ≤ z ∧ z < xs.length) | _ => none
  | .roII xs => match sz with | 1 => some (.rop (.roI (xs.getD z.toNat [])), [], 0 ≤ z ∧ z < xs.length) | _ => none
  | .ro s n f => if Nat.beq s sz then some (.rop (f z.toNat), [], 0 ≤ z ∧ z < n) else none
  | .own k => match lkr rs k with
    | some (.ints xs) => match sz with | 1 => some (.adr k 1 z.toNat 0, [(k, .ints xs)], 0 ≤ z ∧ z < xs.length) | _ => none
    | some (.bools xs) => match sz with | 1 => some (.adr k 1 z.toNat 0, [(k, .bools xs)], 0 ≤ z ∧ z < xs.length) | _ => none
    | some (.rowsR xs) => match sz with | 1 => some (.adr k 1 z.toNat 0, [(k, .rowsR xs)], 0 ≤ z ∧ z < xs.length) | _ => none
    | some (.rows xs) => match sz with | 1 => some (.adr k 1 z.toNat 0, [(k, .rows xs)], 0 ≤ z ∧ z < xs.length) | _ => none
    | some (.rowsH xs i j) => match sz with | 1 => some (.adr k 1 z.toNat 0, [(k, .rowsH xs i j)], 0 ≤ z ∧ z < xs.length) | _ => none
    | some (.avs s n f) => if Nat.beq s sz then some (.adr k sz z.toNat 0, [(k, .avs s n f)], 0 ≤ z ∧ z < n) else none
    | _ => none
  | _ => none

def inI (n : Int) : Prop := -9223372036854775808 ≤ n ∧ n ≤ 9223372036854775807

def evBin : BinOp → AV → AV → Evp
  | .lss, .int .i64 a, .int .i64 b => some (.bool (decide (a < b)), [], True)
  | .leq, .int .i64 a, .int .i64 b => some (.bool (decide (a ≤ b)), [], True)
  | .gtr, .int .i64 a, .int .i64 b => some (.bool (decide (b < a)), [], True)
  | .geq, .int .i64 a, .int .i64 b => some (.bool (decide (b ≤ a)), [], True)
  | .eql, .int .i64 a, .int .i64 b => some (.bool (decide (a = b)), [], True)
  | .neq, .int .i64 a, .int .i64 b => some (.bool (!decide (a = b)), [], True)
  | .add, .int .i64 a, .int .i64 b => some (.int .i64 (a + b), [], inI (a + b))
  | .sub, .int .i64 a, .int .i64 b => some (.int .i64 (a - b), [], inI (a - b))
  | .mul, .int .i64 a, .int .i64 b => some (.int .i64 (a * b), [], inI (a * b))
  | .rem, .int .i64 a, .int .i64 b => some (.int .i64 (a % b), [], 0 ≤ a ∧ 0 < b)
  | _, _, _ => none

def lenOf (rs : List (Nat × Option Blk)) : AV → Evp
  | .roI xs => some (.int .i64 xs.length, [], True)
  | .roB xs => some (.int .i64 xs.length, [], True)
  | .roII xs => some (.int .i64 xs.length, [], True)
  | .ro _ n _ => some (.int .i64 n, [], True)
  | .cst (.slice _ n _) => some (.int .i64 n, [], True)
  | .own k => match lkr rs k with
    | some (.ints xs) => some (.int .i64 xs.length, [(k, .ints xs)], True)
    | some (.bools xs) => some (.int .i64 xs.length, [(k, .bools xs)], True)
    | some (.rowsR xs) => some (.int .i64 xs.length, [(k, .rowsR xs)], True)
    | some (.rows xs) => some (.int .i64 xs.length, [(k, .rows xs)], True)
    | some (.avs s n f) => some (.int .i64 n, [(k, .avs s n f)], True)
    | _ => none
  | _ => none

/-- It takes one cell (or is a struct). -/
def isC : AV → Bool
  | .int _ _ => true
  | .bool _ => true
  | .own _ => true
  | .adr _ _ _ _ => true
  | .roI _ => true
  | .roB _ => true
  | .roII _ => true
  | .ro _ _ _ => true
  | .rop _ => true
  | .fn _ _ => true
  | .yld _ => true
  | .cst v => match v with | .agg _ => false | .tuple _ => false | _ => true
  | .agg _ => true
  | _ => false

/-- The parts of a struct laid into its cells. -/
def fillL (fs : List (Nat × Nat × Bool)) : AV → List (Nat × AV) → Option AV
  | l, [] => some l
  | l, (f, v) :: r => match fs[f]? with
    | some (o, sz, _) => if isC v && properL (cellsL v) && Nat.beq (lenL (cellsL v)) sz && Nat.ble (o + sz) (lenL l) then fillL fs (appL (takeL l o) (appL (cellsL v) (dropL l (o + sz)))) r else none
    | none => none

theorem row_addr {w : World} {x : Value} {sz n : Nat} {g : Nat → List Value → Prop} {F : Nat → Prop} (h : row w x sz n g F) {j : Nat} (hj : j < n) :
    ∃ b f cap, x = .slice (some ⟨b, f, none⟩) n cap ∧ ∃ es, g j es ∧ es.length = sz ∧ ∀ (i : Nat) c, es[i]? = some c → w.cell? ⟨b, f + (j * sz + i), none⟩ = some c := by
  rcases h with ⟨_, h0, _⟩ | ⟨b, f, cap, cells, T, hx, _, _, hh, _, _, hc⟩
  · omega
  · obtain ⟨es, g1, g2, g3⟩ := hc j hj
    exact ⟨b, f, cap, hx, es, g1, g2, fun i c hi => cell_heap hh (g3 i c hi)⟩

theorem row_val {w : World} {x : Value} {sz n : Nat} {g : Nat → List Value → Prop} {F : Nat → Prop} (h : row w x sz n g F) : ∃ A cap, x = .slice A n cap := by
  rcases h with ⟨h0, h1, _⟩ | ⟨b, f, cap, cells, T, hx, _⟩
  · subst h1; exact ⟨none, 0, h0⟩
  · exact ⟨_, _, hx⟩

section
variable {P : Program}

theorem index_some {t e : Nat} {i ie : TI} (h : TOK P t i) (hk : i.k = .slc e) (he : TOK P e ie) {A : Option Addr} {n cap : Nat} {z : Int} (h0 : 0 ≤ z) (h1 : z < n) {b o : Nat} (hA : A = some ⟨b, o, none⟩) (w : World) :
    (Instr.indexAt t (.slice A n cap) (.int .i64 z)).run P w = .ok (.pointer (some ⟨b, o + z.toNat * ie.size, none⟩)) w := by
  subst hA
  have e1 : (⟨b, o, none⟩ : Addr).add (z.toNat * ie.size) = ⟨b, o + z.toNat * ie.size, none⟩ := Addr.add_lit ..
  simp [Instr.indexAt, asIntOf, Sem.run_bind, run_underlying (h.slc e hk), Result.andThen, h0, h1, sizeOf_run he, e1]

theorem field_some {t : Nat} {i : TI} (h : TOK P t i) {fs : List (Nat × Nat × Bool)} (hk : i.k = .str fs) {f o sz : Nat} {g : Bool} (hf : fs[f]? = some (o, sz, g)) (b q : Nat) (w : World) :
    (Instr.fieldAt t (.pointer (some ⟨b, q, none⟩)) f).run P w = .ok (.pointer (some ⟨b, q + o, none⟩)) w := by
  obtain ⟨arr, h1, h2, h3⟩ := h.str fs hk
  obtain ⟨fd, h4, h5, h6, inf, h7, h8⟩ := h3 f o sz g hf
  have e1 : (⟨b, q, none⟩ : Addr).add fd.offset = ⟨b, q + o, none⟩ := by rw [h5]; exact Addr.add_lit ..
  have hsz : (sizeOf fd.type).run P w = .ok sz w := by simp [sizeOf, typeInfo, Sem.run_bind, h7, h8, Result.andThen, program, Sem.run]
  have hne : sz ≠ 0 := by omega
  simp [Instr.fieldAt, Instr.sureAddr, Sem.run_bind, run_underlying h1, Result.andThen, h4, fieldPlace, hsz, hne, e1]
end

end Go.Proofs.Ytgminhedbeblpaa.Cal
