/- Short names for facts of the library that many steps use. -/
import Derived.Test.YtgminhedbeblpaaCal26
set_option linter.unusedVariables false
namespace Go.Proofs.Ytgminhedbeblpaa.Cal
universe u v

theorem z0 {α : Type u} : (none : Option α).isNone = true := rfl
theorem z1 {α : Type u} {l : List α} {i : Nat} {a : α} : (l.set i a).length = l.length := List.length_set
theorem z2 {α : Type u} : ([] : List α).length = 0 := rfl
theorem z3 (n : Nat) : n - 0 = n := rfl
theorem z4 (n : Nat) : n + 0 = n := rfl
theorem z5 (h : Decidable True) : @decide True h = true := decide_true h
theorem z6 (h : Decidable False) : @decide False h = false := decide_false h
theorem z7 : (!false) = true := Bool.not_false
theorem z8 : (!true) = false := Bool.not_true
theorem z9 (b : Bool) : (b && true) = b := Bool.and_true b
theorem z10 (b : Bool) : (true && b) = b := Bool.true_and b
theorem z11 (b : Bool) : (b && false) = false := Bool.and_false b
theorem z12 (b : Bool) : (false && b) = false := Bool.false_and b
theorem z13 (b : Bool) : (b && b) = b := Bool.and_self b
theorem z14 (b : Bool) : (b || true) = true := Bool.or_true b
theorem z15 (b : Bool) : (true || b) = true := Bool.true_or b
theorem z16 (b : Bool) : (b || false) = b := Bool.or_false b
theorem z17 (b : Bool) : (false || b) = b := Bool.false_or b
theorem z18 (b : Bool) : (b || b) = b := Bool.or_self b
theorem z19 {α : Type u} (a b : α) : (bif true then a else b) = a := rfl
theorem z20 {α : Type u} (a b : α) : (bif false then a else b) = b := rfl
theorem z21 {α : Type u} {l : List α} : l.toArray.toList = l := rfl
theorem z22 {α : Type u} {β : Type v} {f : α → β} {a : α} {l : List α} : List.map f (a :: l) = f a :: List.map f l := List.map_cons
theorem z23 {α : Type u} {β : Type v} {f : α → β} : List.map f [] = [] := List.map_nil
theorem z24 {α : Type u} {a : α} {l : List α} : (a :: l)[0]? = some a := rfl
theorem z25 {α : Type u} {a : α} {i : Nat} {l : List α} : (a :: l)[i + 1]? = l[i]? := rfl
theorem z26 {α : Type u} {β : Type v} (a : α) (f : α → β) : Option.map f (some a) = some (f a) := rfl
theorem z27 {α : Type u} {β : Type v} (f : α → β) : Option.map f none = none := rfl
theorem z28 {α : Type u} {i : Nat} : ([] : List α).zipIdx i = [] := rfl
theorem z29 {α : Type u} {a : α} {l : List α} {i : Nat} : (a :: l).zipIdx i = (a, i) :: l.zipIdx (i + 1) := rfl
theorem z30 {α : Type u} {f : α → Bool} : ([] : List α).all f = true := rfl
theorem z31 {α : Type u} {a : α} {l : List α} {f : α → Bool} : (a :: l).all f = (f a && l.all f) := rfl
theorem z32 {α : Type u} : ([] : List α).isEmpty = true := rfl
theorem z33 {α : Type u} {a : α} {l : List α} : (a :: l).isEmpty = false := rfl
theorem z34 {α : Type u} {a : α} {l m : List α} : a :: l ++ m = a :: (l ++ m) := rfl
theorem z35 {α : Type u} (l : List α) : [] ++ l = l := rfl
theorem z36 (p : Prop) : (True ∧ p) = p := true_and p
theorem z37 (p : Prop) : (p ∧ True) = p := and_true p
theorem z38 (α : Sort u) : (α → True) = True := implies_true α
theorem z39 : (false = true) = False := Bool.false_eq_true
theorem z40 : (true = false) = False := Bool.true_eq_false
theorem z41 {α : Type u} {a : α} {l : List α} : (a :: l).length = l.length + 1 := rfl
theorem z42 {α : Type u} {x y : Array α} : (x ++ y).toList = x.toList ++ y.toList := Array.toList_append
theorem z43 (b : Bool) : ((!b) = true) = (b = false) := Bool.not_eq_true' b
theorem z44 (b : Bool) : ((!b) = false) = (b = true) := Bool.not_eq_false' b
theorem z45 (c f : Bool) : (bif c then true else f) = (c || f) := Bool.cond_true_left c f
theorem z46 (c t : Bool) : (bif c then t else false) = (c && t) := Bool.cond_false_right c t
theorem z47 (c f : Bool) : (bif c then false else f) = (!c && f) := Bool.cond_false_left c f
theorem z48 (c t : Bool) : (bif c then t else true) = (!c || t) := Bool.cond_true_right c t
theorem z49 (p : Prop) : (p ∧ p) = p := and_self p
theorem z50 (b : Bool) : (!!b) = b := Bool.not_not b
theorem z51 : (¬True) = False := not_true_eq_false
theorem z52 : (¬False) = True := not_false_eq_true
theorem z53 (n : Nat) : (n : Int).toNat = n := rfl
theorem z54 : Int.toNat 0 = 0 := rfl
theorem z55 : Int.toNat 1 = 1 := rfl
theorem z56 {α : Type u} {l : List α} : l.take l.length = l := List.take_length
theorem z57 {α : Type u} {l : List α} : l.drop 0 = l := List.drop_zero

end Go.Proofs.Ytgminhedbeblpaa.Cal
