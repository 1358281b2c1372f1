/- What a single operation comes to, as a function of the state: the table of all operations, and that it is right. -/
import Derived.Test.YtgminhedbeblpaaCal14
set_option linter.unusedVariables false
set_option linter.unusedSimpArgs false
namespace Go.Proofs.Ytgminhedbeblpaa.Cal
open Go

structure EvR where
  val : AV
  rd : List (Nat × Blk)
  wr : List (Nat × Option Blk)
  kn : Option Nat
  ob : Prop

def strip : AV → AV
  | .whn _ u => u
  | u => u
def gd : AV → Prop
  | .whn g _ => g = true
  | _ => True
def isNilS : Value → Bool
  | .slice none 0 0 => true
  | _ => false

def makeB (ie : TI) (alt : Bool) (n : Nat) : Option Blk :=
  match ie.zero with
  | .int .i64 z => if z = 0 then (if Nat.beq ie.size 1 then some (.ints (List.replicate n 0)) else none) else none
  | .bool b => match b with | false => if Nat.beq ie.size 1 then some (.bools (List.replicate n false)) else none | true => none
  | .cst v => if isNilS v && Nat.beq ie.size 1 then (match alt with | true => some (.rowsR (List.replicate n [])) | false => some (.rows (List.replicate n []))) else none
  | .agg l => some (.avs ie.size n (fun _ => .agg l))
  | _ => none

def stBox (i : TI) (k : Nat) (u : AV) (off : Nat) (ux : AV) : Option EvR :=
  if isCC ux && properL (cellsL ux) && Nat.beq (lenL (cellsL ux)) i.size && Nat.ble 1 i.size && isV u && properL (cellsL u) && Nat.ble (off + i.size) (lenL (cellsL u)) && (isAg u || !isAg ux) then some ⟨.any, [(k, .box u)], [(k, some (.box (updv u off ux)))], none, True⟩ else none

def evStore (i : TI) (l : List (Nat × Option Blk)) (ua ux : AV) : Option EvR :=
  match ua with
  | .own k => match lkr l k with
    | some (.box u) => stBox i k u 0 ux
    | _ => none
  | .adr k sz ix off => match lkr l k with
    | some (.box u) => match sz, ix with
      | 0, 0 => stBox i k u off ux
      | _, _ => none
    | some (.ints xs) => match sz, off, i.size, ux with
      | 1, 0, 1, .int .i64 n => some ⟨.any, [(k, .ints xs)], [(k, some (.ints (xs.set ix n)))], none, ix < xs.length⟩
      | _, _, _, _ => none
    | some (.bools xs) => match sz, off, i.size, ux with
      | 1, 0, 1, .bool n => some ⟨.any, [(k, .bools xs)], [(k, some (.bools (xs.set ix n)))], none, ix < xs.length⟩
      | _, _, _, _ => none
    | some (.rowsR xs) => match sz, off, i.size, ux with
      | 1, 0, 1, .roI n => some ⟨.any, [(k, .rowsR xs)], [(k, some (.rowsR (xs.set ix n)))], none, ix < xs.length⟩
      | _, _, _, _ => none
    | some (.rowsH xs ih k1) => match sz, off, i.size, ux with
      | 1, 0, 1, .own k2 => match lkr l k2 with
        | some (.ints zs) => if Nat.beq k k2 then none else some ⟨.any, [(k, .rowsH xs ih k1), (k2, .ints zs)], [(k, some (.rows (xs.set ix zs))), (k2, none)], none, ix = ih ∧ ix < xs.length⟩
        | _ => none
      | _, _, _, _ => none
    | some (.avs s n f) => if Nat.beq s sz && isCC ux && properL (cellsL ux) && Nat.beq (lenL (cellsL ux)) i.size && Nat.ble 1 i.size && Nat.ble (off + i.size) sz then
        some ⟨.any, [(k, .avs s n f)], [(k, some (.avs s n (fun j => if j = ix then updv (f ix) off ux else f j)))], none, ix < n ∧ isV (f ix) = true ∧ properL (cellsL (f ix)) = true ∧ lenL (cellsL (f ix)) = s ∧ (isAg (f ix) || !isAg ux) = true⟩ else none
    | _ => none
  | _ => none

def srcI (l : List (Nat × Option Blk)) : AV → Option (List Int × List (Nat × Blk))
  | .roI ys => some (ys, [])
  | .own k => match lkr l k with | some (.ints ys) => some (ys, [(k, .ints ys)]) | _ => none
  | _ => none
def srcB (l : List (Nat × Option Blk)) : AV → Option (List Bool × List (Nat × Blk))
  | .roB ys => some (ys, [])
  | .own k => match lkr l k with | some (.bools ys) => some (ys, [(k, .bools ys)]) | _ => none
  | _ => none
def srcR (l : List (Nat × Option Blk)) : AV → Option (List (List Int) × List (Nat × Blk))
  | .roII ys => some (ys, [])
  | .own k => match lkr l k with | some (.rowsR ys) => some (ys, [(k, .rowsR ys)]) | _ => none
  | _ => none

def evApp (l : List (Nat × Option Blk)) (kn : Nat) (ux uy : AV) : Option EvR :=
  match ux with
  | .own k => match lkr l k with
    | some (.ints xs) => match srcI l uy with
      | some (ys, rd) => some ⟨.own kn, (k, .ints xs) :: rd, [(kn, some (.ints (xs ++ ys))), (k, none)], some kn, xs.length + ys.length ≤ 1000000000000⟩
      | none => none
    | some (.bools xs) => match srcB l uy with
      | some (ys, rd) => some ⟨.own kn, (k, .bools xs) :: rd, [(kn, some (.bools (xs ++ ys))), (k, none)], some kn, xs.length + ys.length ≤ 1000000000000⟩
      | none => none
    | some (.rowsR xs) => match srcR l uy with
      | some (ys, rd) => some ⟨.own kn, (k, .rowsR xs) :: rd, [(kn, some (.rowsR (xs ++ ys))), (k, none)], some kn, xs.length + ys.length ≤ 1000000000000⟩
      | none => none
    | _ => none
  | .cst v => match isNilS v with
    | true => match srcI l uy with
      | some (ys, rd) => some ⟨.own kn, rd, [(kn, some (.ints ys))], some kn, ys.length ≤ 1000000000000⟩
      | none => match srcB l uy with
        | some (ys, rd) => some ⟨.own kn, rd, [(kn, some (.bools ys))], some kn, ys.length ≤ 1000000000000⟩
        | none => match srcR l uy with
          | some (ys, rd) => some ⟨.own kn, rd, [(kn, some (.rowsR ys))], some kn, ys.length ≤ 1000000000000⟩
          | none => none
    | false => none
  | _ => none

/-- append of one struct to a slice of structs. -/
def evAppS (sz : Nat) (l : List (Nat × Option Blk)) (kn : Nat) (ux uy : AV) : Option EvR :=
  match uy with
  | .ro s 1 g => if Nat.beq s sz && isAg (g 0) && isCC (g 0) && men noK (g 0) then (match ux with
    | .own k => match lkr l k with
      | some (.avs s' n f) => if Nat.beq s' sz then some ⟨.own kn, [(k, .avs s' n f)], [(kn, some (.avs s' (n + 1) (fun j => if j < n then f j else g 0))), (k, none)], some kn, n + 1 ≤ 1000000000 ∧ ∀ j, j < n → men noK (f j) = true⟩ else none
      | _ => none
    | .cst v => if isNilS v then some ⟨.own kn, [], [(kn, some (.avs s 1 (fun _ => g 0)))], some kn, True⟩ else none
    | _ => none) else none
  | _ => none

def evBuildS (ie : TI) (kn : Nat) (alt : Bool) (n : Nat) (es : List AV) : Option EvR :=
  if allC es ie.size && Nat.beq ie.size 1 && Nat.ble n 1000000 then
    (match collI es with
    | some xs => match alt with
      | true => some ⟨.own kn, [], [(kn, some (.ints xs))], some kn, True⟩
      | false => some ⟨.roI xs, [], [], none, True⟩
    | none => match collB es with
      | some xs => some ⟨.roB xs, [], [], none, True⟩
      | none => match collII es with
        | some xs => match alt with
          | true => some ⟨.own kn, [], [(kn, some (.rowsR xs))], some kn, True⟩
          | false => some ⟨.roII xs, [], [], none, True⟩
        | none => none) else if allC es ie.size && allN es && es.all isAg && Nat.ble 2 ie.size && Nat.ble ie.size 16 && Nat.ble n 1000000 then (match es with
    | [a] => some ⟨.ro ie.size n (fun _ => a), [], [], none, True⟩
    | es => some ⟨.ro ie.size n (fun j => es.getD j .any), [], [], none, True⟩) else none

def evPick (uc ua ub : AV) : Option EvR :=
  match strip uc with
  | .bool p => match strip ua, strip ub with
    | .bool a, .bool b => some ⟨.bool (bif p then a else b), [], [], none, gd uc ∧ (p = true → gd ua) ∧ (p = false → gd ub)⟩
    | .int .i64 a, .int .i64 b => some ⟨.int .i64 (bif p then a else b), [], [], none, gd uc ∧ (p = true → gd ua) ∧ (p = false → gd ub)⟩
    | _, _ => none
  | _ => none

def evTake (i : TI) (l : List (Nat × Option Blk)) (kn : Nat) (u : AV) : Option EvR :=
  match u with
  | .adr k sz ix off => match lkr l k with
    | some (.rows xs) => match sz, off, i.isStr with
      | 1, 0, false => some ⟨.own kn, [(k, .rows xs)], [(kn, some (.ints (xs.getD ix []))), (k, some (.rowsH xs ix kn))], some kn, ix < xs.length⟩
      | _, _, _ => none
    | _ => none
  | _ => none

def ofP : Evp → Option EvR
  | some (v, rd, ob) => some ⟨v, rd, [], none, ob⟩
  | none => none

def evx (tb : Nat → Option TI) (get : Operand → AV) (l : List (Nat × Option Blk)) (kn : Nat) (alt : Bool) (op : Op) : Option EvR :=
  match op with
  | .alloc t => match tb t with
    | some i => some ⟨.own kn, [], [(kn, some (.box i.zero))], some kn, True⟩
    | none => none
  | .box t x => if isC (get x) then (if !alt && men noK (get x) then some ⟨.rop (get x), [], [], none, True⟩ else some ⟨.own kn, [], [(kn, some (.box (get x)))], some kn, True⟩) else none
  | .makeSlice t a c => match tb t with
    | some i => match i.k with
      | .slc e => match tb e with
        | some ie => match get a, get c with
          | .int .i64 n, .int .i64 n' => if Nat.ble ie.bytes 1000 && Nat.ble 1 ie.size then (match makeB ie alt n.toNat with
            | some B => some ⟨.own kn, [], [(kn, some B)], some kn, n' = n ∧ 0 ≤ n ∧ n ≤ 1000000000⟩
            | none => none) else none
          | _, _ => none
        | none => none
      | _ => none
    | none => none
  | .store t a x => match tb t with
    | some i => evStore i l (get a) (get x)
    | none => none
  | .buildSlice t n parts => match tb t with
    | some i => match i.k with
      | .slc e => match tb e with
        | some ie => if partsOK n parts then evBuildS ie kn alt n (elemsOf get parts) else none
        | none => none
      | _ => none
    | none => none
  | .pick c a b => evPick (get c) (get a) (get b)
  | .load t a => match tb t with
    | some i => match evTake i l kn (get a) with
      | some r => some r
      | none => ofP (evLoad i l (get a))
    | none => none
  | .call c => match c.callee with
    | .builtin .append => match c.args.toList, c.argTypes.toList with
      | [x, y], [t, t'] => if Nat.beq t t' then (match tb t with
        | some i => match i.k with
          | .slc e => match tb e with
            | some ie => if Nat.beq ie.size 1 && Nat.ble ie.bytes 100 then evApp l kn (get x) (get y) else if Nat.ble 2 ie.size && Nat.ble ie.bytes 1000 then evAppS ie.size l kn (get x) (get y) else none
            | none => none
          | _ => none
        | none => none) else none
      | _, _ => none
    | _ => ofP (evp tb get l (.call c))
  | op => ofP (evp tb get l op)

end Go.Proofs.Ytgminhedbeblpaa.Cal
