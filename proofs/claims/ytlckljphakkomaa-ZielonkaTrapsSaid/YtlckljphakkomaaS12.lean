/- Own texts of the proof, merged, in order. -/
import Derived.Test.YtlckljphakkomaaProg
import Derived.Test.YtlckljphakkomaaS11
set_option linter.unusedVariables false
set_option linter.unusedSimpArgs false
namespace Go.Proofs.Ytlckljphakkomaa.Cal
open Go
theorem tok2 : TOK Try.prog 2 ⟨.leaf, 1, 8, .int .i64 0⟩ := tok_leaf (d := (.int .i64)) (by kernel_rfl) (by kernel_rfl) rfl rfl rfl
theorem tok3 : TOK Try.prog 3 ⟨.leaf, 1, 8, .int .i64 0⟩ := tok_leaf (d := (.int .i64)) (by kernel_rfl) (by kernel_rfl) rfl rfl rfl
theorem tok4 : TOK Try.prog 4 ⟨.bool, 1, 1, .bool false⟩ := tok_bool (by kernel_rfl) (by kernel_rfl) rfl rfl
theorem tok22 : TOK Try.prog 22 ⟨.slc 3, 1, 24, .cst (.slice none 0 0)⟩ := tok_slc (by kernel_rfl) (by kernel_rfl) rfl rfl
theorem tok23 : TOK Try.prog 23 ⟨.slc 22, 1, 24, .cst (.slice none 0 0)⟩ := tok_slc (by kernel_rfl) (by kernel_rfl) rfl rfl
theorem tok24 : TOK Try.prog 24 ⟨.str [(0, 1, false), (1, 1, false), (2, 1, false)], 3, 72, .agg (.cons (.cst (.slice none 0 0)) (.cons (.cst (.slice none 0 0)) (.cons (.cst (.slice none 0 0)) .nil)))⟩ := tok_str (by kernel_rfl) (by kernel_rfl) rfl rfl
theorem tok25 : TOK Try.prog 25 ⟨.str [(0, 1, false), (1, 1, false), (2, 1, false)], 3, 72, .agg (.cons (.cst (.slice none 0 0)) (.cons (.cst (.slice none 0 0)) (.cons (.cst (.slice none 0 0)) .nil)))⟩ := tok_str (by kernel_rfl) (by kernel_rfl) rfl rfl
theorem tok26 : TOK Try.prog 26 ⟨.leaf, 1, 8, .cst .nilFunc⟩ := tok_leaf (d := (.func #[3, 3, 25] #[4] false)) (by kernel_rfl) (by kernel_rfl) rfl rfl rfl
theorem tok27 : TOK Try.prog 27 ⟨.leaf, 1, 8, .cst .nilFunc⟩ := tok_leaf (d := (.func #[] #[4] false)) (by kernel_rfl) (by kernel_rfl) rfl rfl rfl
theorem tok28 : TOK Try.prog 28 ⟨.str [(0, 1, false), (1, 1, false)], 2, 48, .agg (.cons (.cst (.slice none 0 0)) (.cons (.cst (.slice none 0 0)) .nil))⟩ := tok_str (by kernel_rfl) (by kernel_rfl) rfl rfl
theorem tok29 : TOK Try.prog 29 ⟨.str [(0, 1, false), (1, 1, false)], 2, 48, .agg (.cons (.cst (.slice none 0 0)) (.cons (.cst (.slice none 0 0)) .nil))⟩ := tok_str (by kernel_rfl) (by kernel_rfl) rfl rfl
theorem tok30 : TOK Try.prog 30 ⟨.leaf, 1, 8, .int .i64 0⟩ := tok_leaf (d := (.int .i64)) (by kernel_rfl) (by kernel_rfl) rfl rfl rfl
theorem tok32 : TOK Try.prog 32 ⟨.leaf, 1, 8, .cst .nilFunc⟩ := tok_leaf (d := (.func #[25] #[29, 30] false)) (by kernel_rfl) (by kernel_rfl) rfl rfl rfl
theorem tok33 : TOK Try.prog 33 ⟨.leaf, 1, 8, .cst .nilFunc⟩ := tok_leaf (d := (.func #[25] #[4] false)) (by kernel_rfl) (by kernel_rfl) rfl rfl rfl
theorem tok34 : TOK Try.prog 34 ⟨.leaf, 1, 8, .cst .nilFunc⟩ := tok_leaf (d := (.func #[25, 29] #[4] false)) (by kernel_rfl) (by kernel_rfl) rfl rfl rfl
theorem tok35 : TOK Try.prog 35 ⟨.leaf, 1, 8, .cst .nilFunc⟩ := tok_leaf (d := (.func #[22, 22] #[4] false)) (by kernel_rfl) (by kernel_rfl) rfl rfl rfl
theorem tok36 : TOK Try.prog 36 ⟨.leaf, 1, 8, .cst .nilFunc⟩ := tok_leaf (d := (.func #[25] #[22] false)) (by kernel_rfl) (by kernel_rfl) rfl rfl rfl
theorem tok38 : TOK Try.prog 38 ⟨.leaf, 1, 8, .cst .nilFunc⟩ := tok_leaf (d := (.func #[25, 3] #[3, 30] false)) (by kernel_rfl) (by kernel_rfl) rfl rfl rfl
theorem tok39 : TOK Try.prog 39 ⟨.leaf, 1, 8, .cst .nilFunc⟩ := tok_leaf (d := (.func #[25, 3] #[4] false)) (by kernel_rfl) (by kernel_rfl) rfl rfl rfl
theorem tok40 : TOK Try.prog 40 ⟨.slc 4, 1, 24, .cst (.slice none 0 0)⟩ := tok_slc (by kernel_rfl) (by kernel_rfl) rfl rfl
theorem tok41 : TOK Try.prog 41 ⟨.leaf, 1, 8, .cst .nilFunc⟩ := tok_leaf (d := (.func #[25, 40] #[29, 30] false)) (by kernel_rfl) (by kernel_rfl) rfl rfl rfl
theorem tok43 : TOK Try.prog 43 ⟨.leaf, 1, 8, .cst .nilFunc⟩ := tok_leaf (d := (.func #[25, 40] #[25, 22, 30] false)) (by kernel_rfl) (by kernel_rfl) rfl rfl rfl
theorem tok44 : TOK Try.prog 44 ⟨.leaf, 1, 8, .cst .nilFunc⟩ := tok_leaf (d := (.func #[25, 40] #[4] false)) (by kernel_rfl) (by kernel_rfl) rfl rfl rfl
theorem tok46 : TOK Try.prog 46 ⟨.leaf, 1, 8, .cst .nilFunc⟩ := tok_leaf (d := (.func #[25] #[25, 30] false)) (by kernel_rfl) (by kernel_rfl) rfl rfl rfl
theorem tok48 : TOK Try.prog 48 ⟨.leaf, 1, 8, .cst .nilFunc⟩ := tok_leaf (d := (.func #[25, 3, 22] #[22, 30] false)) (by kernel_rfl) (by kernel_rfl) rfl rfl rfl
theorem tok49 : TOK Try.prog 49 ⟨.leaf, 1, 8, .cst .nilFunc⟩ := tok_leaf (d := (.func #[25, 3, 22] #[4] false)) (by kernel_rfl) (by kernel_rfl) rfl rfl rfl
theorem tok50 : TOK Try.prog 50 ⟨.leaf, 1, 8, .cst .nilFunc⟩ := tok_leaf (d := (.func #[] #[25] false)) (by kernel_rfl) (by kernel_rfl) rfl rfl rfl
theorem tok51 : TOK Try.prog 51 ⟨.leaf, 1, 8, .cst .nilFunc⟩ := tok_leaf (d := (.func #[3] #[40] false)) (by kernel_rfl) (by kernel_rfl) rfl rfl rfl
theorem tok52 : TOK Try.prog 52 ⟨.leaf, 1, 8, .cst .nilFunc⟩ := tok_leaf (d := (.func #[22, 3] #[4] false)) (by kernel_rfl) (by kernel_rfl) rfl rfl rfl
theorem tok54 : TOK Try.prog 54 ⟨.leaf, 1, 8, .cst .nilFunc⟩ := tok_leaf (d := (.func #[25, 29, 3] #[25, 4] false)) (by kernel_rfl) (by kernel_rfl) rfl rfl rfl
theorem tok55 : TOK Try.prog 55 ⟨.leaf, 1, 8, .cst .nilFunc⟩ := tok_leaf (d := (.func #[25, 3] #[40] false)) (by kernel_rfl) (by kernel_rfl) rfl rfl rfl
theorem tok56 : TOK Try.prog 56 ⟨.leaf, 1, 8, .cst .nilFunc⟩ := tok_leaf (d := (.func #[25, 40] #[22] false)) (by kernel_rfl) (by kernel_rfl) rfl rfl rfl
theorem tok57 : TOK Try.prog 57 ⟨.leaf, 1, 8, .cst (.pointer none)⟩ := tok_leaf (d := (.pointer 70)) (by kernel_rfl) (by kernel_rfl) rfl rfl rfl
theorem tok58 : TOK Try.prog 58 ⟨.leaf, 1, 8, .cst .nilFunc⟩ := tok_leaf (d := (.func #[25] #[57] false)) (by kernel_rfl) (by kernel_rfl) rfl rfl rfl
theorem tok59 : TOK Try.prog 59 ⟨.leaf, 1, 8, .cst .nilFunc⟩ := tok_leaf (d := (.func #[73] #[] false)) (by kernel_rfl) (by kernel_rfl) rfl rfl rfl
theorem tok60 : TOK Try.prog 60 ⟨.leaf, 1, 8, .cst .nilFunc⟩ := tok_leaf (d := (.func #[73] #[] false)) (by kernel_rfl) (by kernel_rfl) rfl rfl rfl
theorem tok61 : TOK Try.prog 61 ⟨.leaf, 1, 8, .cst .nilFunc⟩ := tok_leaf (d := (.func #[40] #[60] false)) (by kernel_rfl) (by kernel_rfl) rfl rfl rfl
theorem tok62 : TOK Try.prog 62 ⟨.leaf, 1, 8, .cst .nilFunc⟩ := tok_leaf (d := (.func #[3, 40] #[3] false)) (by kernel_rfl) (by kernel_rfl) rfl rfl rfl
theorem tok63 : TOK Try.prog 63 ⟨.leaf, 1, 8, .cst .nilFunc⟩ := tok_leaf (d := (.func #[25] #[25] false)) (by kernel_rfl) (by kernel_rfl) rfl rfl rfl
theorem tok64 : TOK Try.prog 64 ⟨.leaf, 1, 8, .cst .nilFunc⟩ := tok_leaf (d := (.func #[25, 3, 3, 40] #[4] false)) (by kernel_rfl) (by kernel_rfl) rfl rfl rfl
theorem tok68 : TOK Try.prog 68 ⟨.leaf, 1, 8, .cst .nilFunc⟩ := tok_leaf (d := (.func #[40] #[] false)) (by kernel_rfl) (by kernel_rfl) rfl rfl rfl
theorem tok69 : TOK Try.prog 69 ⟨.str [(0, 3, true), (3, 1, false), (4, 1, false), (5, 2, true)], 7, 152, .agg (.cons (.cst (.slice none 0 0)) (.cons (.cst (.slice none 0 0)) (.cons (.cst (.slice none 0 0)) (.cons (.cst (.slice none 0 0)) (.cons (.int .i64 0) (.cons (.cst (.slice none 0 0)) (.cons (.cst (.slice none 0 0)) .nil)))))))⟩ := tok_str (by kernel_rfl) (by kernel_rfl) rfl rfl
theorem tok70 : TOK Try.prog 70 ⟨.str [(0, 3, true), (3, 1, false), (4, 1, false), (5, 2, true)], 7, 152, .agg (.cons (.cst (.slice none 0 0)) (.cons (.cst (.slice none 0 0)) (.cons (.cst (.slice none 0 0)) (.cons (.cst (.slice none 0 0)) (.cons (.int .i64 0) (.cons (.cst (.slice none 0 0)) (.cons (.cst (.slice none 0 0)) .nil)))))))⟩ := tok_str (by kernel_rfl) (by kernel_rfl) rfl rfl
theorem tok71 : TOK Try.prog 71 ⟨.leaf, 1, 8, .cst .nilFunc⟩ := tok_leaf (d := (.func #[25, 3, 3] #[40] false)) (by kernel_rfl) (by kernel_rfl) rfl rfl rfl
theorem tok72 : TOK Try.prog 72 ⟨.leaf, 1, 8, .cst .nilFunc⟩ := tok_leaf (d := (.func #[25, 40, 3, 40] #[40] false)) (by kernel_rfl) (by kernel_rfl) rfl rfl rfl
theorem tok73 : TOK Try.prog 73 ⟨.leaf, 1, 8, .cst .nilFunc⟩ := tok_leaf (d := (.func #[3] #[4] false)) (by kernel_rfl) (by kernel_rfl) rfl rfl rfl
theorem tok74 : TOK Try.prog 74 ⟨.leaf, 1, 8, .cst .nilFunc⟩ := tok_leaf (d := (.func #[22] #[22] false)) (by kernel_rfl) (by kernel_rfl) rfl rfl rfl
theorem tok76 : TOK Try.prog 76 ⟨.leaf, 1, 8, .cst .nilFunc⟩ := tok_leaf (d := (.func #[40] #[40, 3, 4] false)) (by kernel_rfl) (by kernel_rfl) rfl rfl rfl
theorem tok77 : TOK Try.prog 77 ⟨.map, 1, 8, .cst (.map none)⟩ := tok_map (by kernel_rfl) (by kernel_rfl) rfl rfl
theorem tok78 : TOK Try.prog 78 ⟨.leaf, 1, 8, .cst .nilFunc⟩ := tok_leaf (d := (.func #[3, 40, 40, 79] #[40] false)) (by kernel_rfl) (by kernel_rfl) rfl rfl rfl
theorem tok79 : TOK Try.prog 79 ⟨.leaf, 1, 8, .cst .nilFunc⟩ := tok_leaf (d := (.func #[3, 3] #[] false)) (by kernel_rfl) (by kernel_rfl) rfl rfl rfl
theorem tok80 : TOK Try.prog 80 ⟨.leaf, 1, 8, .cst .nilFunc⟩ := tok_leaf (d := (.func #[40, 40] #[40] false)) (by kernel_rfl) (by kernel_rfl) rfl rfl rfl
theorem tok81 : TOK Try.prog 81 ⟨.leaf, 1, 8, .cst .nilFunc⟩ := tok_leaf (d := (.func #[40, 40, 40, 3, 77] #[] false)) (by kernel_rfl) (by kernel_rfl) rfl rfl rfl
theorem tok82 : TOK Try.prog 82 ⟨.leaf, 1, 8, .cst .nilFunc⟩ := tok_leaf (d := (.func #[3, 3, 3] #[] false)) (by kernel_rfl) (by kernel_rfl) rfl rfl rfl
theorem tok90 : TOK Try.prog 90 ⟨.leaf, 1, 8, .cst .nilFunc⟩ := tok_leaf (d := (.func #[] #[3] false)) (by kernel_rfl) (by kernel_rfl) rfl rfl rfl
def tb : Nat → Option TI
  | 2 => some ⟨.leaf, 1, 8, .int .i64 0⟩
  | 3 => some ⟨.leaf, 1, 8, .int .i64 0⟩
  | 4 => some ⟨.bool, 1, 1, .bool false⟩
  | 22 => some ⟨.slc 3, 1, 24, .cst (.slice none 0 0)⟩
  | 23 => some ⟨.slc 22, 1, 24, .cst (.slice none 0 0)⟩
  | 24 => some ⟨.str [(0, 1, false), (1, 1, false), (2, 1, false)], 3, 72, .agg (.cons (.cst (.slice none 0 0)) (.cons (.cst (.slice none 0 0)) (.cons (.cst (.slice none 0 0)) .nil)))⟩
  | 25 => some ⟨.str [(0, 1, false), (1, 1, false), (2, 1, false)], 3, 72, .agg (.cons (.cst (.slice none 0 0)) (.cons (.cst (.slice none 0 0)) (.cons (.cst (.slice none 0 0)) .nil)))⟩
  | 26 => some ⟨.leaf, 1, 8, .cst .nilFunc⟩
  | 27 => some ⟨.leaf, 1, 8, .cst .nilFunc⟩
  | 28 => some ⟨.str [(0, 1, false), (1, 1, false)], 2, 48, .agg (.cons (.cst (.slice none 0 0)) (.cons (.cst (.slice none 0 0)) .nil))⟩
  | 29 => some ⟨.str [(0, 1, false), (1, 1, false)], 2, 48, .agg (.cons (.cst (.slice none 0 0)) (.cons (.cst (.slice none 0 0)) .nil))⟩
  | 30 => some ⟨.leaf, 1, 8, .int .i64 0⟩
  | 32 => some ⟨.leaf, 1, 8, .cst .nilFunc⟩
  | 33 => some ⟨.leaf, 1, 8, .cst .nilFunc⟩
  | 34 => some ⟨.leaf, 1, 8, .cst .nilFunc⟩
  | 35 => some ⟨.leaf, 1, 8, .cst .nilFunc⟩
  | 36 => some ⟨.leaf, 1, 8, .cst .nilFunc⟩
  | 38 => some ⟨.leaf, 1, 8, .cst .nilFunc⟩
  | 39 => some ⟨.leaf, 1, 8, .cst .nilFunc⟩
  | 40 => some ⟨.slc 4, 1, 24, .cst (.slice none 0 0)⟩
  | 41 => some ⟨.leaf, 1, 8, .cst .nilFunc⟩
  | 43 => some ⟨.leaf, 1, 8, .cst .nilFunc⟩
  | 44 => some ⟨.leaf, 1, 8, .cst .nilFunc⟩
  | 46 => some ⟨.leaf, 1, 8, .cst .nilFunc⟩
  | 48 => some ⟨.leaf, 1, 8, .cst .nilFunc⟩
  | 49 => some ⟨.leaf, 1, 8, .cst .nilFunc⟩
  | 50 => some ⟨.leaf, 1, 8, .cst .nilFunc⟩
  | 51 => some ⟨.leaf, 1, 8, .cst .nilFunc⟩
  | 52 => some ⟨.leaf, 1, 8, .cst .nilFunc⟩
  | 54 => some ⟨.leaf, 1, 8, .cst .nilFunc⟩
  | 55 => some ⟨.leaf, 1, 8, .cst .nilFunc⟩
  | 56 => some ⟨.leaf, 1, 8, .cst .nilFunc⟩
  | 57 => some ⟨.leaf, 1, 8, .cst (.pointer none)⟩
  | 58 => some ⟨.leaf, 1, 8, .cst .nilFunc⟩
  | 59 => some ⟨.leaf, 1, 8, .cst .nilFunc⟩
  | 60 => some ⟨.leaf, 1, 8, .cst .nilFunc⟩
  | 61 => some ⟨.leaf, 1, 8, .cst .nilFunc⟩
  | 62 => some ⟨.leaf, 1, 8, .cst .nilFunc⟩
  | 63 => some ⟨.leaf, 1, 8, .cst .nilFunc⟩
  | 64 => some ⟨.leaf, 1, 8, .cst .nilFunc⟩
  | 68 => some ⟨.leaf, 1, 8, .cst .nilFunc⟩
  | 69 => some ⟨.str [(0, 3, true), (3, 1, false), (4, 1, false), (5, 2, true)], 7, 152, .agg (.cons (.cst (.slice none 0 0)) (.cons (.cst (.slice none 0 0)) (.cons (.cst (.slice none 0 0)) (.cons (.cst (.slice none 0 0)) (.cons (.int .i64 0) (.cons (.cst (.slice none 0 0)) (.cons (.cst (.slice none 0 0)) .nil)))))))⟩
  | 70 => some ⟨.str [(0, 3, true), (3, 1, false), (4, 1, false), (5, 2, true)], 7, 152, .agg (.cons (.cst (.slice none 0 0)) (.cons (.cst (.slice none 0 0)) (.cons (.cst (.slice none 0 0)) (.cons (.cst (.slice none 0 0)) (.cons (.int .i64 0) (.cons (.cst (.slice none 0 0)) (.cons (.cst (.slice none 0 0)) .nil)))))))⟩
  | 71 => some ⟨.leaf, 1, 8, .cst .nilFunc⟩
  | 72 => some ⟨.leaf, 1, 8, .cst .nilFunc⟩
  | 73 => some ⟨.leaf, 1, 8, .cst .nilFunc⟩
  | 74 => some ⟨.leaf, 1, 8, .cst .nilFunc⟩
  | 76 => some ⟨.leaf, 1, 8, .cst .nilFunc⟩
  | 77 => some ⟨.map, 1, 8, .cst (.map none)⟩
  | 78 => some ⟨.leaf, 1, 8, .cst .nilFunc⟩
  | 79 => some ⟨.leaf, 1, 8, .cst .nilFunc⟩
  | 80 => some ⟨.leaf, 1, 8, .cst .nilFunc⟩
  | 81 => some ⟨.leaf, 1, 8, .cst .nilFunc⟩
  | 82 => some ⟨.leaf, 1, 8, .cst .nilFunc⟩
  | 90 => some ⟨.leaf, 1, 8, .cst .nilFunc⟩
  | _ => none
theorem htb : TabOK Try.prog tb := by
  intro t i h
  unfold tb at h
  split at h
  · cases h; exact tok2
  · cases h; exact tok3
  · cases h; exact tok4
  · cases h; exact tok22
  · cases h; exact tok23
  · cases h; exact tok24
  · cases h; exact tok25
  · cases h; exact tok26
  · cases h; exact tok27
  · cases h; exact tok28
  · cases h; exact tok29
  · cases h; exact tok30
  · cases h; exact tok32
  · cases h; exact tok33
  · cases h; exact tok34
  · cases h; exact tok35
  · cases h; exact tok36
  · cases h; exact tok38
  · cases h; exact tok39
  · cases h; exact tok40
  · cases h; exact tok41
  · cases h; exact tok43
  · cases h; exact tok44
  · cases h; exact tok46
  · cases h; exact tok48
  · cases h; exact tok49
  · cases h; exact tok50
  · cases h; exact tok51
  · cases h; exact tok52
  · cases h; exact tok54
  · cases h; exact tok55
  · cases h; exact tok56
  · cases h; exact tok57
  · cases h; exact tok58
  · cases h; exact tok59
  · cases h; exact tok60
  · cases h; exact tok61
  · cases h; exact tok62
  · cases h; exact tok63
  · cases h; exact tok64
  · cases h; exact tok68
  · cases h; exact tok69
  · cases h; exact tok70
  · cases h; exact tok71
  · cases h; exact tok72
  · cases h; exact tok73
  · cases h; exact tok74
  · cases h; exact tok76
  · cases h; exact tok77
  · cases h; exact tok78
  · cases h; exact tok79
  · cases h; exact tok80
  · cases h; exact tok81
  · cases h; exact tok82
  · cases h; exact tok90
  · cases h
theorem hmz : ∀ t i, tb t = some i → men noK i.zero = true := by
  intro t i h
  unfold tb at h
  split at h <;> first | (cases h; done) | (cases h; rfl)
theorem hmo : Try.prog.follows .mixedOrders = true := by kernel_rfl
end Go.Proofs.Ytlckljphakkomaa.Cal
namespace Go.Proofs.Ytlckljphakkomaa.Cal
universe u v
theorem z0 {α : Type u} : (none : Option α).isNone = true := rfl
theorem z1 {α : Type u} {l : List α} {i : Nat} {a : α} : (l.set i a).length = l.length := List.length_set
theorem z2 {α : Type u} : ([] : List α).length = 0 := rfl
theorem z3 (n : Nat) : n - 0 = n := rfl
theorem z4 (n : Nat) : n + 0 = n := rfl
theorem z5 (h : Decidable True) : @decide True h = true := decide_true h
theorem z6 (h : Decidable False) : @decide False h = false := decide_false h
theorem z7 : (!false) = true := Bool.not_false
theorem z8 : (!true) = false := Bool.not_true
theorem z9 (b : Bool) : (b && true) = b := Bool.and_true b
theorem z10 (b : Bool) : (true && b) = b := Bool.true_and b
theorem z11 (b : Bool) : (b && false) = false := Bool.and_false b
theorem z12 (b : Bool) : (false && b) = false := Bool.false_and b
theorem z13 (b : Bool) : (b && b) = b := Bool.and_self b
theorem z14 (b : Bool) : (b || true) = true := Bool.or_true b
theorem z15 (b : Bool) : (true || b) = true := Bool.true_or b
theorem z16 (b : Bool) : (b || false) = b := Bool.or_false b
theorem z17 (b : Bool) : (false || b) = b := Bool.false_or b
theorem z18 (b : Bool) : (b || b) = b := Bool.or_self b
theorem z19 {α : Type u} (a b : α) : (bif true then a else b) = a := rfl
theorem z20 {α : Type u} (a b : α) : (bif false then a else b) = b := rfl
theorem z21 {α : Type u} {l : List α} : l.toArray.toList = l := rfl
theorem z22 {α : Type u} {β : Type v} {f : α → β} {a : α} {l : List α} : List.map f (a :: l) = f a :: List.map f l := List.map_cons
theorem z23 {α : Type u} {β : Type v} {f : α → β} : List.map f [] = [] := List.map_nil
theorem z24 {α : Type u} {a : α} {l : List α} : (a :: l)[0]? = some a := rfl
theorem z25 {α : Type u} {a : α} {i : Nat} {l : List α} : (a :: l)[i + 1]? = l[i]? := rfl
theorem z26 {α : Type u} {β : Type v} (a : α) (f : α → β) : Option.map f (some a) = some (f a) := rfl
theorem z27 {α : Type u} {β : Type v} (f : α → β) : Option.map f none = none := rfl
theorem z28 {α : Type u} {i : Nat} : ([] : List α).zipIdx i = [] := rfl
theorem z29 {α : Type u} {a : α} {l : List α} {i : Nat} : (a :: l).zipIdx i = (a, i) :: l.zipIdx (i + 1) := rfl
theorem z30 {α : Type u} {f : α → Bool} : ([] : List α).all f = true := rfl
theorem z31 {α : Type u} {a : α} {l : List α} {f : α → Bool} : (a :: l).all f = (f a && l.all f) := rfl
theorem z32 {α : Type u} : ([] : List α).isEmpty = true := rfl
theorem z33 {α : Type u} {a : α} {l : List α} : (a :: l).isEmpty = false := rfl
theorem z34 {α : Type u} {a : α} {l m : List α} : a :: l ++ m = a :: (l ++ m) := rfl
theorem z35 {α : Type u} (l : List α) : [] ++ l = l := rfl
theorem z36 (p : Prop) : (True ∧ p) = p := true_and p
theorem z37 (p : Prop) : (p ∧ True) = p := and_true p
theorem z38 (α : Sort u) : (α → True) = True := implies_true α
theorem z39 : (false = true) = False := Bool.false_eq_true
theorem z40 : (true = false) = False := Bool.true_eq_false
theorem z41 {α : Type u} {a : α} {l : List α} : (a :: l).length = l.length + 1 := rfl
theorem z42 {α : Type u} {x y : Array α} : (x ++ y).toList = x.toList ++ y.toList := Array.toList_append
theorem z43 (b : Bool) : ((!b) = true) = (b = false) := Bool.not_eq_true' b
theorem z44 (b : Bool) : ((!b) = false) = (b = true) := Bool.not_eq_false' b
theorem z45 (c f : Bool) : (bif c then true else f) = (c || f) := Bool.cond_true_left c f
theorem z46 (c t : Bool) : (bif c then t else false) = (c && t) := Bool.cond_false_right c t
theorem z47 (c f : Bool) : (bif c then false else f) = (!c && f) := Bool.cond_false_left c f
theorem z48 (c t : Bool) : (bif c then t else true) = (!c || t) := Bool.cond_true_right c t
theorem z49 (p : Prop) : (p ∧ p) = p := and_self p
theorem z50 (b : Bool) : (!!b) = b := Bool.not_not b
theorem z51 : (¬True) = False := not_true_eq_false
theorem z52 : (¬False) = True := not_false_eq_true
theorem z53 (n : Nat) : (n : Int).toNat = n := rfl
theorem z54 : Int.toNat 0 = 0 := rfl
theorem z55 : Int.toNat 1 = 1 := rfl
theorem z56 {α : Type u} {l : List α} : l.take l.length = l := List.take_length
theorem z57 {α : Type u} {l : List α} : l.drop 0 = l := List.drop_zero
end Go.Proofs.Ytlckljphakkomaa.Cal
namespace Go.Proofs.Ytlckljphakkomaa.Cal
open Go
theorem zE0 : type_of% (And.intro @evOut.eq_1 <| And.intro @evOut.eq_2 <| And.intro @evStep.eq_1 <| And.intro @evCap.eq_1 <| And.intro @evCap.eq_2 <| And.intro @evMap.eq_1 <| And.intro @evMap.eq_2 <| And.intro @evMap.eq_3 <| And.intro @evMap.eq_4 <| And.intro @isIntS.eq_1 <| And.intro @gua.eq_1 <| And.intro @eq_self.{1} <| And.intro @evo.eq_1 <| And.intro @ev1.eq_1 <| And.intro @ev1.eq_2 <| And.intro @ev1.eq_3 <| And.intro @ev1.eq_4 <| And.intro @ev1.eq_5 <| And.intro @ev1.eq_6 <| And.intro @ev1.eq_7 <| And.intro @ev1.eq_8 <| And.intro @ev1.eq_9 <| And.intro @ev1.eq_10 <| And.intro @evx.eq_1 <| And.intro @evx.eq_2 <| And.intro @evx.eq_3 <| And.intro @evx.eq_4 <| And.intro @evx.eq_5 <| And.intro @evx.eq_6 <| And.intro @evx.eq_7 <| And.intro @evx.eq_8 <| And.intro @evx.eq_9 <| And.intro @evp.eq_1 <| And.intro @evp.eq_2 <| And.intro @evp.eq_3 <| And.intro @evp.eq_4 <| And.intro @evp.eq_5 <| And.intro @evp.eq_6 <| And.intro @evp.eq_7 <| And.intro @evp.eq_8 <| And.intro @evp.eq_9 <| And.intro @evp.eq_10 <| And.intro @evp.eq_11 <| And.intro @evp.eq_12 <| And.intro @evp.eq_13 <| And.intro @evp.eq_14 <| And.intro @evp.eq_15 <| And.intro @evp.eq_16 <| And.intro @ofP.eq_1 <| And.intro @ofP.eq_2 <| And.intro @guardOf.eq_1 <| And.intro @opv.eq_1 <| And.intro @opv.eq_2 <| And.intro @opv.eq_3 <| And.intro @opv.eq_4 <| And.intro @opv.eq_5 <| And.intro @opv.eq_6 <| And.intro @lke_cons <| And.intro @lke_nil <| And.intro @lkr_nil <| And.intro @lkr_cons <| And.intro @isC.eq_1 <| And.intro @isC.eq_2 <| And.intro @isC.eq_3 <| And.intro @isC.eq_4 <| And.intro @isC.eq_5 <| And.intro @isC.eq_6 <| And.intro @isC.eq_7 <| And.intro @isC.eq_8 <| And.intro @isC.eq_9 <| And.intro @isC.eq_10 <| @isC.eq_11) := And.intro @evOut.eq_1 <| And.intro @evOut.eq_2 <| And.intro @evStep.eq_1 <| And.intro @evCap.eq_1 <| And.intro @evCap.eq_2 <| And.intro @evMap.eq_1 <| And.intro @evMap.eq_2 <| And.intro @evMap.eq_3 <| And.intro @evMap.eq_4 <| And.intro @isIntS.eq_1 <| And.intro @gua.eq_1 <| And.intro @eq_self.{1} <| And.intro @evo.eq_1 <| And.intro @ev1.eq_1 <| And.intro @ev1.eq_2 <| And.intro @ev1.eq_3 <| And.intro @ev1.eq_4 <| And.intro @ev1.eq_5 <| And.intro @ev1.eq_6 <| And.intro @ev1.eq_7 <| And.intro @ev1.eq_8 <| And.intro @ev1.eq_9 <| And.intro @ev1.eq_10 <| And.intro @evx.eq_1 <| And.intro @evx.eq_2 <| And.intro @evx.eq_3 <| And.intro @evx.eq_4 <| And.intro @evx.eq_5 <| And.intro @evx.eq_6 <| And.intro @evx.eq_7 <| And.intro @evx.eq_8 <| And.intro @evx.eq_9 <| And.intro @evp.eq_1 <| And.intro @evp.eq_2 <| And.intro @evp.eq_3 <| And.intro @evp.eq_4 <| And.intro @evp.eq_5 <| And.intro @evp.eq_6 <| And.intro @evp.eq_7 <| And.intro @evp.eq_8 <| And.intro @evp.eq_9 <| And.intro @evp.eq_10 <| And.intro @evp.eq_11 <| And.intro @evp.eq_12 <| And.intro @evp.eq_13 <| And.intro @evp.eq_14 <| And.intro @evp.eq_15 <| And.intro @evp.eq_16 <| And.intro @ofP.eq_1 <| And.intro @ofP.eq_2 <| And.intro @guardOf.eq_1 <| And.intro @opv.eq_1 <| And.intro @opv.eq_2 <| And.intro @opv.eq_3 <| And.intro @opv.eq_4 <| And.intro @opv.eq_5 <| And.intro @opv.eq_6 <| And.intro @lke_cons <| And.intro @lke_nil <| And.intro @lkr_nil <| And.intro @lkr_cons <| And.intro @isC.eq_1 <| And.intro @isC.eq_2 <| And.intro @isC.eq_3 <| And.intro @isC.eq_4 <| And.intro @isC.eq_5 <| And.intro @isC.eq_6 <| And.intro @isC.eq_7 <| And.intro @isC.eq_8 <| And.intro @isC.eq_9 <| And.intro @isC.eq_10 <| @isC.eq_11
theorem zE1 : type_of% (And.intro @isC.eq_12 <| And.intro @isC.eq_13 <| And.intro @isC.eq_14 <| And.intro @isC.eq_15 <| And.intro @isC.eq_16 <| And.intro @isCC.eq_1 <| And.intro @isCC.eq_2 <| And.intro @isCL.eq_1 <| And.intro @isCL.eq_2 <| And.intro @isCL.eq_3 <| And.intro @men.eq_1 <| And.intro @men.eq_2 <| And.intro @men.eq_3 <| And.intro @men.eq_4 <| And.intro @men.eq_5 <| And.intro @men.eq_6 <| And.intro @men.eq_7 <| And.intro @men.eq_8 <| And.intro @men.eq_9 <| And.intro @putE.eq_1 <| And.intro @putE.eq_2 <| And.intro @setW.eq_1 <| And.intro @setW.eq_2 <| And.intro @setW.eq_3 <| And.intro @set1.eq_1 <| And.intro @set1.eq_2 <| And.intro @del.eq_1 <| And.intro @del.eq_2 <| And.intro @evLoad.eq_1 <| And.intro @evLoad.eq_2 <| And.intro @evLoad.eq_3 <| And.intro @evLoad.eq_4 <| And.intro @evField.eq_1 <| And.intro @evIndex.eq_1 <| And.intro @evIndex.eq_2 <| And.intro @evIndex.eq_3 <| And.intro @evIndex.eq_4 <| And.intro @evIndex.eq_5 <| And.intro @evIndex.eq_6 <| And.intro @evIndex.eq_7 <| And.intro @evIndex.eq_8 <| And.intro @evIndex.eq_9 <| And.intro @evBin.eq_1 <| And.intro @evBin.eq_2 <| And.intro @evBin.eq_3 <| And.intro @evBin.eq_4 <| And.intro @evBin.eq_5 <| And.intro @evBin.eq_6 <| And.intro @evBin.eq_7 <| And.intro @evBin.eq_8 <| And.intro @evBin.eq_9 <| And.intro @evBin.eq_10 <| And.intro @evBin.eq_11 <| And.intro @lenOf.eq_1 <| And.intro @lenOf.eq_2 <| And.intro @lenOf.eq_3 <| And.intro @lenOf.eq_4 <| And.intro @lenOf.eq_5 <| And.intro @lenOf.eq_6 <| And.intro @lenOf.eq_7 <| And.intro @evSlice.eq_1 <| And.intro @evSlice.eq_2 <| And.intro @evSlice.eq_3 <| And.intro @bnd.eq_1 <| And.intro @bnd.eq_2 <| And.intro @cutI.eq_1 <| And.intro @cutI.eq_2 <| And.intro @subv.eq_1 <| And.intro @selv.eq_1 <| And.intro @isV.eq_1 <| And.intro @isV.eq_2 <| @isV.eq_3) := And.intro @isC.eq_12 <| And.intro @isC.eq_13 <| And.intro @isC.eq_14 <| And.intro @isC.eq_15 <| And.intro @isC.eq_16 <| And.intro @isCC.eq_1 <| And.intro @isCC.eq_2 <| And.intro @isCL.eq_1 <| And.intro @isCL.eq_2 <| And.intro @isCL.eq_3 <| And.intro @men.eq_1 <| And.intro @men.eq_2 <| And.intro @men.eq_3 <| And.intro @men.eq_4 <| And.intro @men.eq_5 <| And.intro @men.eq_6 <| And.intro @men.eq_7 <| And.intro @men.eq_8 <| And.intro @men.eq_9 <| And.intro @putE.eq_1 <| And.intro @putE.eq_2 <| And.intro @setW.eq_1 <| And.intro @setW.eq_2 <| And.intro @setW.eq_3 <| And.intro @set1.eq_1 <| And.intro @set1.eq_2 <| And.intro @del.eq_1 <| And.intro @del.eq_2 <| And.intro @evLoad.eq_1 <| And.intro @evLoad.eq_2 <| And.intro @evLoad.eq_3 <| And.intro @evLoad.eq_4 <| And.intro @evField.eq_1 <| And.intro @evIndex.eq_1 <| And.intro @evIndex.eq_2 <| And.intro @evIndex.eq_3 <| And.intro @evIndex.eq_4 <| And.intro @evIndex.eq_5 <| And.intro @evIndex.eq_6 <| And.intro @evIndex.eq_7 <| And.intro @evIndex.eq_8 <| And.intro @evIndex.eq_9 <| And.intro @evBin.eq_1 <| And.intro @evBin.eq_2 <| And.intro @evBin.eq_3 <| And.intro @evBin.eq_4 <| And.intro @evBin.eq_5 <| And.intro @evBin.eq_6 <| And.intro @evBin.eq_7 <| And.intro @evBin.eq_8 <| And.intro @evBin.eq_9 <| And.intro @evBin.eq_10 <| And.intro @evBin.eq_11 <| And.intro @lenOf.eq_1 <| And.intro @lenOf.eq_2 <| And.intro @lenOf.eq_3 <| And.intro @lenOf.eq_4 <| And.intro @lenOf.eq_5 <| And.intro @lenOf.eq_6 <| And.intro @lenOf.eq_7 <| And.intro @evSlice.eq_1 <| And.intro @evSlice.eq_2 <| And.intro @evSlice.eq_3 <| And.intro @bnd.eq_1 <| And.intro @bnd.eq_2 <| And.intro @cutI.eq_1 <| And.intro @cutI.eq_2 <| And.intro @subv.eq_1 <| And.intro @selv.eq_1 <| And.intro @isV.eq_1 <| And.intro @isV.eq_2 <| @isV.eq_3
theorem zE2 : type_of% (And.intro @isV.eq_4 <| And.intro @isAg.eq_1 <| And.intro @isAg.eq_2 <| And.intro @cellsL.eq_1 <| And.intro @cellsL.eq_2 <| And.intro @lenL.eq_1 <| And.intro @lenL.eq_2 <| And.intro @properL.eq_1 <| And.intro @properL.eq_2 <| And.intro @properL.eq_3 <| And.intro @nthL.eq_1 <| And.intro @nthL.eq_2 <| And.intro @nthL.eq_3 <| And.intro @dropL.eq_1 <| And.intro @dropL.eq_2 <| And.intro @dropL.eq_3 <| And.intro @takeL.eq_1 <| And.intro @takeL.eq_2 <| And.intro @takeL.eq_3 <| And.intro @appL.eq_1 <| And.intro @appL.eq_2 <| And.intro @setL.eq_1 <| And.intro @setL.eq_2 <| And.intro @setL.eq_3 <| And.intro @updv.eq_1 <| And.intro @updv.eq_2 <| And.intro @TI.isStr.eq_1 <| And.intro @strip.eq_1 <| And.intro @strip.eq_2 <| And.intro @gd.eq_1 <| And.intro @gd.eq_2 <| And.intro @gds.eq_1 <| And.intro @gds.eq_2 <| And.intro @whnR.eq_1 <| And.intro @whnR.eq_2 <| And.intro @evPick.eq_1 <| And.intro @evStore.eq_1 <| And.intro @evStore.eq_2 <| And.intro @evStore.eq_3 <| And.intro @stBox.eq_1 <| And.intro @evApp.eq_1 <| And.intro @evApp.eq_2 <| And.intro @evApp.eq_3 <| And.intro @evAppS.eq_1 <| And.intro @evAppS.eq_2 <| And.intro @evAppS.eq_3 <| And.intro @evAppS.eq_4 <| And.intro @List.getD_cons_zero.{0} <| And.intro @srcI.eq_1 <| And.intro @srcI.eq_2 <| And.intro @srcI.eq_3 <| And.intro @srcB.eq_1 <| And.intro @srcB.eq_2 <| And.intro @srcB.eq_3 <| And.intro @srcR.eq_1 <| And.intro @srcR.eq_2 <| And.intro @srcR.eq_3 <| And.intro @evBuildS.eq_1 <| And.intro @evBuildS.eq_2 <| And.intro @evTake.eq_1 <| And.intro @evTake.eq_2 <| And.intro @makeB.eq_1 <| And.intro @makeB.eq_2 <| And.intro @isNilS.eq_1 <| And.intro @isNilS.eq_2 <| And.intro @partsOK.eq_1 <| And.intro @elemsOf.eq_1 <| And.intro @collI.eq_1 <| And.intro @collI.eq_2 <| And.intro @collI.eq_3 <| And.intro @collB.eq_1 <| @collB.eq_2) := And.intro @isV.eq_4 <| And.intro @isAg.eq_1 <| And.intro @isAg.eq_2 <| And.intro @cellsL.eq_1 <| And.intro @cellsL.eq_2 <| And.intro @lenL.eq_1 <| And.intro @lenL.eq_2 <| And.intro @properL.eq_1 <| And.intro @properL.eq_2 <| And.intro @properL.eq_3 <| And.intro @nthL.eq_1 <| And.intro @nthL.eq_2 <| And.intro @nthL.eq_3 <| And.intro @dropL.eq_1 <| And.intro @dropL.eq_2 <| And.intro @dropL.eq_3 <| And.intro @takeL.eq_1 <| And.intro @takeL.eq_2 <| And.intro @takeL.eq_3 <| And.intro @appL.eq_1 <| And.intro @appL.eq_2 <| And.intro @setL.eq_1 <| And.intro @setL.eq_2 <| And.intro @setL.eq_3 <| And.intro @updv.eq_1 <| And.intro @updv.eq_2 <| And.intro @TI.isStr.eq_1 <| And.intro @strip.eq_1 <| And.intro @strip.eq_2 <| And.intro @gd.eq_1 <| And.intro @gd.eq_2 <| And.intro @gds.eq_1 <| And.intro @gds.eq_2 <| And.intro @whnR.eq_1 <| And.intro @whnR.eq_2 <| And.intro @evPick.eq_1 <| And.intro @evStore.eq_1 <| And.intro @evStore.eq_2 <| And.intro @evStore.eq_3 <| And.intro @stBox.eq_1 <| And.intro @evApp.eq_1 <| And.intro @evApp.eq_2 <| And.intro @evApp.eq_3 <| And.intro @evAppS.eq_1 <| And.intro @evAppS.eq_2 <| And.intro @evAppS.eq_3 <| And.intro @evAppS.eq_4 <| And.intro @List.getD_cons_zero.{0} <| And.intro @srcI.eq_1 <| And.intro @srcI.eq_2 <| And.intro @srcI.eq_3 <| And.intro @srcB.eq_1 <| And.intro @srcB.eq_2 <| And.intro @srcB.eq_3 <| And.intro @srcR.eq_1 <| And.intro @srcR.eq_2 <| And.intro @srcR.eq_3 <| And.intro @evBuildS.eq_1 <| And.intro @evBuildS.eq_2 <| And.intro @evTake.eq_1 <| And.intro @evTake.eq_2 <| And.intro @makeB.eq_1 <| And.intro @makeB.eq_2 <| And.intro @isNilS.eq_1 <| And.intro @isNilS.eq_2 <| And.intro @partsOK.eq_1 <| And.intro @elemsOf.eq_1 <| And.intro @collI.eq_1 <| And.intro @collI.eq_2 <| And.intro @collI.eq_3 <| And.intro @collB.eq_1 <| @collB.eq_2
theorem zE3 : type_of% (And.intro @collB.eq_3 <| And.intro @collII.eq_1 <| And.intro @collII.eq_2 <| And.intro @collII.eq_3 <| And.intro @allC.eq_1 <| And.intro @allN.eq_1 <| And.intro @fillL.eq_1 <| And.intro @fillL.eq_2 <| And.intro @evCut.eq_1 <| And.intro @evFz.eq_1 <| And.intro @evFz.eq_2 <| And.intro @evFz.eq_3 <| And.intro @evFz.eq_4 <| And.intro @evFz.eq_5 <| And.intro @lko.eq_1 <| And.intro @lko.eq_2 <| And.intro @z0.{0} <| And.intro @renB.eq_1 <| And.intro @renB.eq_2 <| And.intro @renB.eq_3 <| And.intro @renB.eq_4 <| And.intro @renB.eq_5 <| And.intro @z1.{0} <| And.intro @z2.{0} <| And.intro @z3 <| And.intro @z4 <| And.intro @notD.eq_1 <| And.intro @notD.eq_2 <| And.intro @chkG.eq_1 <| And.intro @evCopy.eq_1 <| And.intro @evCall.eq_1 <| And.intro @ofSR.eq_1 <| And.intro @viewA.eq_1 <| And.intro @viewA.eq_2 <| And.intro @viewA.eq_3 <| And.intro @viewA.eq_4 <| And.intro @viewA.eq_5 <| And.intro @lsOf.eq_1 <| And.intro @lsOf.eq_2 <| And.intro @ofL.eq_1 <| And.intro @ofL.eq_2 <| And.intro @zfree.eq_1 <| And.intro @zfree.eq_2 <| And.intro @zfree.eq_3 <| And.intro @zfree.eq_4 <| And.intro @zfree.eq_5 <| And.intro @zfree.eq_6 <| And.intro @zfree.eq_7 <| And.intro @zfree.eq_8 <| And.intro @zfree.eq_9 <| And.intro @zfree.eq_10 <| And.intro @zfree.eq_11 <| And.intro @zfreeB.eq_1 <| And.intro @zfreeB.eq_2 <| And.intro @zfreeB.eq_3 <| And.intro @zfreeB.eq_4 <| And.intro @freeB.eq_1 <| And.intro @freeB.eq_2 <| And.intro @freeB.eq_3 <| And.intro @freeB.eq_4 <| And.intro @freeB.eq_5 <| And.intro @freeB.eq_6 <| And.intro @isOne.eq_1 <| And.intro @ren.eq_1 <| And.intro @ren.eq_2 <| And.intro @ren.eq_3 <| And.intro @ren.eq_4 <| And.intro @ren.eq_5 <| And.intro @ren.eq_6 <| And.intro @ren.eq_7 <| And.intro @ren.eq_8 <| @ren.eq_9) := And.intro @collB.eq_3 <| And.intro @collII.eq_1 <| And.intro @collII.eq_2 <| And.intro @collII.eq_3 <| And.intro @allC.eq_1 <| And.intro @allN.eq_1 <| And.intro @fillL.eq_1 <| And.intro @fillL.eq_2 <| And.intro @evCut.eq_1 <| And.intro @evFz.eq_1 <| And.intro @evFz.eq_2 <| And.intro @evFz.eq_3 <| And.intro @evFz.eq_4 <| And.intro @evFz.eq_5 <| And.intro @lko.eq_1 <| And.intro @lko.eq_2 <| And.intro @z0.{0} <| And.intro @renB.eq_1 <| And.intro @renB.eq_2 <| And.intro @renB.eq_3 <| And.intro @renB.eq_4 <| And.intro @renB.eq_5 <| And.intro @z1.{0} <| And.intro @z2.{0} <| And.intro @z3 <| And.intro @z4 <| And.intro @notD.eq_1 <| And.intro @notD.eq_2 <| And.intro @chkG.eq_1 <| And.intro @evCopy.eq_1 <| And.intro @evCall.eq_1 <| And.intro @ofSR.eq_1 <| And.intro @viewA.eq_1 <| And.intro @viewA.eq_2 <| And.intro @viewA.eq_3 <| And.intro @viewA.eq_4 <| And.intro @viewA.eq_5 <| And.intro @lsOf.eq_1 <| And.intro @lsOf.eq_2 <| And.intro @ofL.eq_1 <| And.intro @ofL.eq_2 <| And.intro @zfree.eq_1 <| And.intro @zfree.eq_2 <| And.intro @zfree.eq_3 <| And.intro @zfree.eq_4 <| And.intro @zfree.eq_5 <| And.intro @zfree.eq_6 <| And.intro @zfree.eq_7 <| And.intro @zfree.eq_8 <| And.intro @zfree.eq_9 <| And.intro @zfree.eq_10 <| And.intro @zfree.eq_11 <| And.intro @zfreeB.eq_1 <| And.intro @zfreeB.eq_2 <| And.intro @zfreeB.eq_3 <| And.intro @zfreeB.eq_4 <| And.intro @freeB.eq_1 <| And.intro @freeB.eq_2 <| And.intro @freeB.eq_3 <| And.intro @freeB.eq_4 <| And.intro @freeB.eq_5 <| And.intro @freeB.eq_6 <| And.intro @isOne.eq_1 <| And.intro @ren.eq_1 <| And.intro @ren.eq_2 <| And.intro @ren.eq_3 <| And.intro @ren.eq_4 <| And.intro @ren.eq_5 <| And.intro @ren.eq_6 <| And.intro @ren.eq_7 <| And.intro @ren.eq_8 <| @ren.eq_9
theorem zE4 : type_of% (And.intro @zipE.eq_1 <| And.intro @zipE.eq_2 <| And.intro @Go.Op.operands.eq_1 <| And.intro @Go.Op.operands.eq_2 <| And.intro @Go.Op.operands.eq_3 <| And.intro @Go.Op.operands.eq_4 <| And.intro @Go.Op.operands.eq_5 <| And.intro @Go.Op.operands.eq_6 <| And.intro @Go.Op.operands.eq_7 <| And.intro @Go.Op.operands.eq_8 <| And.intro @Go.Op.operands.eq_9 <| And.intro @Go.Op.operands.eq_10 <| And.intro @Go.Op.operands.eq_11 <| And.intro @Go.Op.operands.eq_12 <| And.intro @Go.Op.operands.eq_13 <| And.intro @Go.Op.operands.eq_14 <| And.intro @Go.Op.operands.eq_15 <| And.intro @Go.Op.operands.eq_16 <| And.intro @Go.Op.operands.eq_17 <| And.intro @Go.Op.operands.eq_18 <| And.intro @Go.Op.operands.eq_19 <| And.intro @Go.Op.operands.eq_20 <| And.intro @Go.Op.operands.eq_21 <| And.intro @Go.Op.operands.eq_22 <| And.intro @Go.Op.operands.eq_23 <| And.intro @Go.Op.operands.eq_24 <| And.intro @Go.Op.operands.eq_25 <| And.intro @Go.Op.operands.eq_26 <| And.intro @Go.Op.operands.eq_27 <| And.intro @Go.Op.operands.eq_28 <| And.intro @Go.Op.operands.eq_29 <| And.intro @Go.Op.operands.eq_30 <| And.intro @Go.Op.operands.eq_31 <| And.intro @Go.Op.operands.eq_32 <| And.intro @Go.Op.operands.eq_33 <| And.intro @Go.Op.operands.eq_34 <| And.intro @Go.Op.operands.eq_35 <| And.intro @Go.Op.operands.eq_36 <| And.intro @Go.Op.operands.eq_37 <| And.intro @Go.Op.operands.eq_38 <| And.intro @Go.Op.operands.eq_39 <| And.intro @Go.Op.operands.eq_40 <| And.intro @Go.Op.operands.eq_41 <| And.intro @Go.Op.operands.eq_42 <| And.intro @Go.Op.operands.eq_43 <| And.intro @Go.Call.operands.eq_1 <| And.intro @nbeq <| And.intro @nble <| And.intro @nblt <| And.intro @z5 <| And.intro @z6 <| And.intro @z7 <| And.intro @z8 <| And.intro @z9 <| And.intro @z10 <| And.intro @z11 <| And.intro @z12 <| And.intro @z13 <| And.intro @z14 <| And.intro @z15 <| And.intro @z16 <| And.intro @z17 <| And.intro @z18 <| And.intro @z19.{0} <| And.intro @z20.{0} <| And.intro @z21.{0} <| And.intro @z22.{0, 0} <| And.intro @z23.{0, 0} <| And.intro @z24.{0} <| And.intro @z25.{0} <| And.intro @z26.{0, 0} <| @z27.{0, 0}) := And.intro @zipE.eq_1 <| And.intro @zipE.eq_2 <| And.intro @Go.Op.operands.eq_1 <| And.intro @Go.Op.operands.eq_2 <| And.intro @Go.Op.operands.eq_3 <| And.intro @Go.Op.operands.eq_4 <| And.intro @Go.Op.operands.eq_5 <| And.intro @Go.Op.operands.eq_6 <| And.intro @Go.Op.operands.eq_7 <| And.intro @Go.Op.operands.eq_8 <| And.intro @Go.Op.operands.eq_9 <| And.intro @Go.Op.operands.eq_10 <| And.intro @Go.Op.operands.eq_11 <| And.intro @Go.Op.operands.eq_12 <| And.intro @Go.Op.operands.eq_13 <| And.intro @Go.Op.operands.eq_14 <| And.intro @Go.Op.operands.eq_15 <| And.intro @Go.Op.operands.eq_16 <| And.intro @Go.Op.operands.eq_17 <| And.intro @Go.Op.operands.eq_18 <| And.intro @Go.Op.operands.eq_19 <| And.intro @Go.Op.operands.eq_20 <| And.intro @Go.Op.operands.eq_21 <| And.intro @Go.Op.operands.eq_22 <| And.intro @Go.Op.operands.eq_23 <| And.intro @Go.Op.operands.eq_24 <| And.intro @Go.Op.operands.eq_25 <| And.intro @Go.Op.operands.eq_26 <| And.intro @Go.Op.operands.eq_27 <| And.intro @Go.Op.operands.eq_28 <| And.intro @Go.Op.operands.eq_29 <| And.intro @Go.Op.operands.eq_30 <| And.intro @Go.Op.operands.eq_31 <| And.intro @Go.Op.operands.eq_32 <| And.intro @Go.Op.operands.eq_33 <| And.intro @Go.Op.operands.eq_34 <| And.intro @Go.Op.operands.eq_35 <| And.intro @Go.Op.operands.eq_36 <| And.intro @Go.Op.operands.eq_37 <| And.intro @Go.Op.operands.eq_38 <| And.intro @Go.Op.operands.eq_39 <| And.intro @Go.Op.operands.eq_40 <| And.intro @Go.Op.operands.eq_41 <| And.intro @Go.Op.operands.eq_42 <| And.intro @Go.Op.operands.eq_43 <| And.intro @Go.Call.operands.eq_1 <| And.intro @nbeq <| And.intro @nble <| And.intro @nblt <| And.intro @z5 <| And.intro @z6 <| And.intro @z7 <| And.intro @z8 <| And.intro @z9 <| And.intro @z10 <| And.intro @z11 <| And.intro @z12 <| And.intro @z13 <| And.intro @z14 <| And.intro @z15 <| And.intro @z16 <| And.intro @z17 <| And.intro @z18 <| And.intro @z19.{0} <| And.intro @z20.{0} <| And.intro @z21.{0} <| And.intro @z22.{0, 0} <| And.intro @z23.{0, 0} <| And.intro @z24.{0} <| And.intro @z25.{0} <| And.intro @z26.{0, 0} <| @z27.{0, 0}
theorem zE5 : type_of% (And.intro @z28.{0} <| And.intro @z29.{0} <| And.intro @z30.{0} <| And.intro @z31.{0} <| And.intro @z32.{0} <| And.intro @z33.{0} <| And.intro @z34.{0} <| And.intro @z35.{0} <| And.intro @z36 <| And.intro @z37 <| And.intro @imp_self <| And.intro @EO.mk.injEq <| And.intro @z39 <| And.intro @z40 <| And.intro @z41.{0} <| And.intro @z42.{0} <| And.intro @z43 <| And.intro @z44 <| And.intro @z45 <| And.intro @z46 <| And.intro @z47 <| And.intro @z48 <| And.intro @z49 <| And.intro @z50 <| And.intro @ne_eq.{1} <| And.intro @z51 <| And.intro @z52 <| And.intro @z53 <| And.intro @z54 <| And.intro @z55 <| And.intro @z56.{0} <| And.intro @z57.{0} <| And.intro @inI.eq_1 <| And.intro @evRes.eq_1 <| And.intro @evRes.eq_2 <| And.intro @evRes.eq_3 <| And.intro @resV.eq_1 <| And.intro @resV.eq_2 <| And.intro @mkL.eq_1 <| And.intro @mkL.eq_2 <| And.intro @ltK.eq_1 <| And.intro @rhoL.eq_1 <| And.intro @rhoL.eq_2 <| And.intro @leE.eq_1 <| And.intro @leE.eq_2 <| And.intro @leR.eq_1 <| And.intro @leR.eq_2 <| And.intro @leR.eq_3 <| And.intro @menB.eq_1 <| And.intro @menB.eq_2 <| And.intro @menB.eq_3 <| And.intro @menB.eq_4 <| And.intro @menB.eq_5 <| And.intro @menE.eq_1 <| And.intro @menE.eq_2 <| And.intro @fzA.eq_1 <| And.intro @fzA.eq_2 <| And.intro @fzA.eq_3 <| And.intro @fzA.eq_4 <| And.intro @fzA.eq_5 <| And.intro @fzA.eq_6 <| And.intro @fzA.eq_7 <| And.intro @fzE.eq_1 <| And.intro @fzE.eq_2 <| And.intro @fzB.eq_1 <| And.intro @fzB.eq_2 <| And.intro @fzR.eq_1 <| And.intro @fzR.eq_2 <| @fzR.eq_3) := And.intro @z28.{0} <| And.intro @z29.{0} <| And.intro @z30.{0} <| And.intro @z31.{0} <| And.intro @z32.{0} <| And.intro @z33.{0} <| And.intro @z34.{0} <| And.intro @z35.{0} <| And.intro @z36 <| And.intro @z37 <| And.intro @imp_self <| And.intro @EO.mk.injEq <| And.intro @z39 <| And.intro @z40 <| And.intro @z41.{0} <| And.intro @z42.{0} <| And.intro @z43 <| And.intro @z44 <| And.intro @z45 <| And.intro @z46 <| And.intro @z47 <| And.intro @z48 <| And.intro @z49 <| And.intro @z50 <| And.intro @ne_eq.{1} <| And.intro @z51 <| And.intro @z52 <| And.intro @z53 <| And.intro @z54 <| And.intro @z55 <| And.intro @z56.{0} <| And.intro @z57.{0} <| And.intro @inI.eq_1 <| And.intro @evRes.eq_1 <| And.intro @evRes.eq_2 <| And.intro @evRes.eq_3 <| And.intro @resV.eq_1 <| And.intro @resV.eq_2 <| And.intro @mkL.eq_1 <| And.intro @mkL.eq_2 <| And.intro @ltK.eq_1 <| And.intro @rhoL.eq_1 <| And.intro @rhoL.eq_2 <| And.intro @leE.eq_1 <| And.intro @leE.eq_2 <| And.intro @leR.eq_1 <| And.intro @leR.eq_2 <| And.intro @leR.eq_3 <| And.intro @menB.eq_1 <| And.intro @menB.eq_2 <| And.intro @menB.eq_3 <| And.intro @menB.eq_4 <| And.intro @menB.eq_5 <| And.intro @menE.eq_1 <| And.intro @menE.eq_2 <| And.intro @fzA.eq_1 <| And.intro @fzA.eq_2 <| And.intro @fzA.eq_3 <| And.intro @fzA.eq_4 <| And.intro @fzA.eq_5 <| And.intro @fzA.eq_6 <| And.intro @fzA.eq_7 <| And.intro @fzE.eq_1 <| And.intro @fzE.eq_2 <| And.intro @fzB.eq_1 <| And.intro @fzB.eq_2 <| And.intro @fzR.eq_1 <| And.intro @fzR.eq_2 <| @fzR.eq_3
theorem zI : type_of% (And.intro @AV.int.injEq <| And.intro @AV.bool.injEq <| And.intro @AV.roI.injEq <| And.intro @AV.roB.injEq <| And.intro @AV.roII.injEq <| And.intro @AV.rop.injEq <| And.intro @AV.agg.injEq <| And.intro @AV.tup.injEq <| And.intro @AV.cons.injEq <| And.intro @AV.own.injEq <| And.intro @AV.whn.injEq <| And.intro @Blk.ints.injEq <| And.intro @Blk.bools.injEq <| And.intro @Blk.rows.injEq <| And.intro @Blk.rowsR.injEq <| And.intro @Blk.box.injEq <| And.intro @Option.some.injEq.{0} <| And.intro @Int.natCast_add <| And.intro @Int.natCast_one <| @Int.cast_ofNat_Int) := And.intro @AV.int.injEq <| And.intro @AV.bool.injEq <| And.intro @AV.roI.injEq <| And.intro @AV.roB.injEq <| And.intro @AV.roII.injEq <| And.intro @AV.rop.injEq <| And.intro @AV.agg.injEq <| And.intro @AV.tup.injEq <| And.intro @AV.cons.injEq <| And.intro @AV.own.injEq <| And.intro @AV.whn.injEq <| And.intro @Blk.ints.injEq <| And.intro @Blk.bools.injEq <| And.intro @Blk.rows.injEq <| And.intro @Blk.rowsR.injEq <| And.intro @Blk.box.injEq <| And.intro @Option.some.injEq.{0} <| And.intro @Int.natCast_add <| And.intro @Int.natCast_one <| @Int.cast_ofNat_Int
theorem zH : type_of% (And.intro @Bool.and_eq_false_iff <| And.intro @decide_eq_true_eq <| And.intro @decide_eq_false_iff_not <| And.intro @Bool.or_eq_true <| And.intro @Bool.or_eq_false_iff <| And.intro @Bool.and_eq_true <| And.intro @Bool.not_eq_true' <| And.intro @Bool.not_eq_false' <| And.intro @not_or <| And.intro @Int.not_lt <| @Int.not_le) := And.intro @Bool.and_eq_false_iff <| And.intro @decide_eq_true_eq <| And.intro @decide_eq_false_iff_not <| And.intro @Bool.or_eq_true <| And.intro @Bool.or_eq_false_iff <| And.intro @Bool.and_eq_true <| And.intro @Bool.not_eq_true' <| And.intro @Bool.not_eq_false' <| And.intro @not_or <| And.intro @Int.not_lt <| @Int.not_le
end Go.Proofs.Ytlckljphakkomaa.Cal
namespace Go.Proofs.Ytlckljphakkomaa.Cal
open Go
structure Gm where
  own : List Int
  pri : List Int
  nxt : List (List Int)
def gmA (g : Gm) : AV := .agg (.cons (.roI g.own) (.cons (.roI g.pri) (.cons (.roII g.nxt) .nil)))
theorem noSp : SpOK Try.prog (fun _ => none) := fun f S h => by cases h
end Go.Proofs.Ytlckljphakkomaa.Cal
namespace Go.Proofs.Ytlckljphakkomaa.Cal
open Go
def tot (x : List (List Int)) (i : Nat) : Int := ((x.take i).map fun l => (l.length : Int)).sum
def few (n m : Int) (g : Gm) : Bool := !(decide (n < (g.own.length : Int)) || decide (n < (g.pri.length : Int)) || decide (n < (g.nxt.length : Int))) && decide (tot g.nxt g.nxt.length ≤ m)
def fewS : Spec
  | [.int .i64 n, .int .i64 m, .agg (.cons (.roI o) (.cons (.roI p) (.cons (.roII x) .nil)))] => some ⟨n ≤ 1000, .bool (few n m ⟨o, p, x⟩), none⟩
  | _ => none
theorem tot_succ {x : List (List Int)} {i : Nat} (h : i < x.length) : tot x (i + 1) = tot x i + (x.getD i []).length := by
  unfold tot
  rw [List.take_add_one, List.getElem?_eq_getElem h]
  rw [List.map_append, List.sum_append]
  simp [List.getD_eq_getElem?_getD, List.getElem?_eq_getElem h]
theorem tot_le {x : List (List Int)} (hx : ∀ j, j < x.length → (x.getD j []).length ≤ lim) : ∀ i, i ≤ x.length → 0 ≤ tot x i ∧ tot x i ≤ i * (lim : Int) := by
  intro i
  induction i with
  | zero => intro _; simp [tot]
  | succ i ih =>
    intro hi
    have := ih (by omega)
    have h2 := hx i (by omega)
    rw [tot_succ (by omega)]
    push_cast
    rw [Int.add_mul]
    omega
set_option maxRecDepth 4000 in
set_option maxHeartbeats 4000000 in
theorem few_ok : FSpec Try.prog 8 fewS := by
  refine fspec_of htb (fn := Try.f8) (by kernel_rfl) (by kernel_rfl) rfl (fun args r hS => ?_) (fun args r hS hob hl => ?_)
  · unfold fewS at hS; split at hS <;> first | (cases hS; done) | (cases hS; exact Nat.le_of_ble_eq_true rfl)
  unfold fewS at hS
  split at hS
  case h_2 => cases hS
  rename_i n m o p x
  simp only [Option.some.injEq] at hS
  subst hS
  simp only [lenP, mkL, lim] at hl
  dsimp only at hob
  repeat' first
    | with_reducible first | refine awp_seq ?_ | refine awp_block ?_ | refine next_then ?_ | refine next_block ?_ | refine exit_then ?_ | refine ret_then ?_ | refine ret_block ?_ | refine exit_here ?_ | refine awp_exit ?_ | refine awp_ret ?_ | refine awp_skip ?_ | refine awp_label ?_ | refine next_noGoto ?_ | refine ret_noGoto ?_ | refine exit_noGoto ?_ | refine awp_scope ?_
    | ((with_reducible refine exit_past ?_ ?_); exact rfl)
    | ((with_reducible refine isCond ?_); refine awp_condO rfl ?_ ?_ <;> intro hb <;> (try simp only [zH] at hb))
    | ((with_reducible refine isReg ?_); (first | refine awp_textM htb hmz noSp (fun _ => false) rfl rfl ?_ | refine awp_drawM hmo htb hmz noSp (fun _ => false) rfl rfl (by kernel_rfl) ?_); intro m' e' l' ob h; simp only [zE0, zE1, zE2, zE3, zE4, zE5, evp, evx, ev1, evLoad, evStore, evBin, isBoolK, forall_const, z38, tb, Nat.reduceAdd, Nat.reduceSub, Nat.reduceMul, Nat.reduceEqDiff, Nat.reduceLeDiff, Nat.reduceLT, Nat.reduceBEq, Nat.reduceBNe, ↓reduceIte, reduceIte] at h; obtain ⟨rfl, rfl, rfl, rfl⟩ := h; refine ⟨?_, ?_⟩)
    | ((with_reducible refine Ob.mk ?_); first | exact trivial | (intros; omega) | ((repeat' first | apply And.intro | (intro hg; have hg' := hg; try simp only [zH] at hg')) <;> first | assumption | omega | (simp only [zH]; omega)))
  · refine fin_ret rfl rfl (spec_flat rfl ?_ rfl)
    show AV.bool false = AV.bool _
    simp [few]; omega
  · obtain ⟨_, _, ⟨_, _, ⟨hx, hxx⟩, _⟩, _⟩ := hl
    refine awp_loopC (τ := Nat) (fun i => i ≤ x.length) (fun i => ⟨22, [(32, .int .i64 i), (7, .int .i64 (tot x i)), (30, .roII x), (31, .int .i64 x.length), (0, .int .i64 n), (1, .int .i64 m), (5, .rop (.agg (.cons (.roI o) (.cons (.roI p) (.cons (.roII x) .nil)))))], [], []⟩) (fun i => x.length - i) 0 [] ⟨rfl, by simp [zE0, zE1, zE2, zE3, zE4, zE5, evp, evx, ev1, evLoad, evStore, evBin, isBoolK, forall_const, z38, tb, Nat.reduceAdd, Nat.reduceSub, Nat.reduceMul, Nat.reduceEqDiff, Nat.reduceLeDiff, Nat.reduceLT, Nat.reduceBEq, Nat.reduceBNe, ↓reduceIte, reduceIte, tot], by simp only [zE0, zE1, zE2, zE3, zE4, zE5, evp, evx, ev1, evLoad, evStore, evBin, isBoolK, forall_const, z38, tb, Nat.reduceAdd, Nat.reduceSub, Nat.reduceMul, Nat.reduceEqDiff, Nat.reduceLeDiff, Nat.reduceLT, Nat.reduceBEq, Nat.reduceBNe, ↓reduceIte, reduceIte]⟩ (by omega) ?_
    intro i hi
    have ht := tot_le hxx i hi
    simp only [lim] at ht
    repeat' first
      | with_reducible first | refine awp_seq ?_ | refine awp_block ?_ | refine next_then ?_ | refine next_block ?_ | refine exit_then ?_ | refine ret_then ?_ | refine ret_block ?_ | refine exit_here ?_ | refine awp_exit ?_ | refine awp_ret ?_ | refine awp_skip ?_ | refine awp_label ?_ | refine next_noGoto ?_ | refine ret_noGoto ?_ | refine exit_noGoto ?_ | refine awp_scope ?_
      | ((with_reducible refine exit_past ?_ ?_); exact rfl)
      | ((with_reducible refine isCond ?_); refine awp_condO rfl ?_ ?_ <;> intro hb <;> (try simp only [zH] at hb))
      | ((with_reducible refine isReg ?_); (first | refine awp_textM htb hmz noSp (fun _ => false) rfl rfl ?_ | refine awp_drawM hmo htb hmz noSp (fun _ => false) rfl rfl (by kernel_rfl) ?_); intro m' e' l' ob h; simp only [zE0, zE1, zE2, zE3, zE4, zE5, evp, evx, ev1, evLoad, evStore, evBin, isBoolK, forall_const, z38, tb, Nat.reduceAdd, Nat.reduceSub, Nat.reduceMul, Nat.reduceEqDiff, Nat.reduceLeDiff, Nat.reduceLT, Nat.reduceBEq, Nat.reduceBNe, ↓reduceIte, reduceIte] at h; obtain ⟨rfl, rfl, rfl, rfl⟩ := h; refine ⟨?_, ?_⟩)
      | ((with_reducible refine Ob.mk ?_); first | exact trivial | (intros; omega) | ((repeat' first | apply And.intro | (intro hg; have hg' := hg; try simp only [zH] at hg')) <;> first | assumption | omega | (simp only [zH]; omega)))
    · have h1 := hxx i (by omega)
      constructor <;> omega
    · refine back (i + 1) [] ?_ (by omega) (by omega)
      (refine ⟨rfl, ?_, ?_⟩ <;> simp only [zE0, zE1, zE2, zE3, zE4, zE5, evp, evx, ev1, evLoad, evStore, evBin, isBoolK, forall_const, z38, tb, Nat.reduceAdd, Nat.reduceSub, Nat.reduceMul, Nat.reduceEqDiff, Nat.reduceLeDiff, Nat.reduceLT, Nat.reduceBEq, Nat.reduceBNe, ↓reduceIte, reduceIte, zI])
      rw [tot_succ (by omega)]
    · refine fin_ret rfl rfl (spec_flat rfl ?_ rfl)
      show AV.bool (decide (tot x i ≤ m)) = AV.bool _
      have : i = x.length := by omega
      subst this
      simp [few]; omega
def listS : Spec
  | [.roI a, .roI b] => some ⟨True, .bool (decide (a = b)), none⟩
  | _ => none
theorem ext0 {a b : List Int} (h1 : a.length = b.length) (h2 : ∀ j, j < a.length → a.getD j 0 = b.getD j 0) : a = b := by
  refine List.ext_getElem h1 fun j hj hj' => ?_
  have := h2 j hj
  simpa [List.getD_eq_getElem?_getD, hj, hj'] using this
set_option maxRecDepth 4000 in
set_option maxHeartbeats 4000000 in
theorem list_ok : FSpec Try.prog 14 listS := by
  refine fspec_of htb (fn := Try.f14) (by kernel_rfl) (by kernel_rfl) rfl (fun args r hS => ?_) (fun args r hS hob hl => ?_)
  · unfold listS at hS; split at hS <;> first | (cases hS; done) | (cases hS; exact Nat.le_of_ble_eq_true rfl)
  unfold listS at hS
  split at hS
  case h_2 => cases hS
  rename_i a b
  simp only [Option.some.injEq] at hS
  subst hS
  simp only [lenP, mkL, lim] at hl
  dsimp only at hob
  repeat' first
    | with_reducible first | refine awp_seq ?_ | refine awp_block ?_ | refine next_then ?_ | refine next_block ?_ | refine exit_then ?_ | refine ret_then ?_ | refine ret_block ?_ | refine exit_here ?_ | refine awp_exit ?_ | refine awp_ret ?_ | refine awp_skip ?_ | refine awp_label ?_ | refine next_noGoto ?_ | refine ret_noGoto ?_ | refine exit_noGoto ?_ | refine awp_scope ?_
    | ((with_reducible refine exit_past ?_ ?_); exact rfl)
    | ((with_reducible refine isCond ?_); refine awp_condO rfl ?_ ?_ <;> intro hb <;> (try simp only [zH] at hb))
    | ((with_reducible refine isReg ?_); (first | refine awp_textM htb hmz noSp (fun _ => false) rfl rfl ?_ | refine awp_drawM hmo htb hmz noSp (fun _ => false) rfl rfl (by kernel_rfl) ?_); intro m' e' l' ob h; simp only [zE0, zE1, zE2, zE3, zE4, zE5, evp, evx, ev1, evLoad, evStore, evBin, isBoolK, forall_const, z38, tb, Nat.reduceAdd, Nat.reduceSub, Nat.reduceMul, Nat.reduceEqDiff, Nat.reduceLeDiff, Nat.reduceLT, Nat.reduceBEq, Nat.reduceBNe, ↓reduceIte, reduceIte] at h; obtain ⟨rfl, rfl, rfl, rfl⟩ := h; refine ⟨?_, ?_⟩)
    | ((with_reducible refine Ob.mk ?_); first | exact trivial | (intros; omega) | ((repeat' first | apply And.intro | (intro hg; have hg' := hg; try simp only [zH] at hg')) <;> first | assumption | omega | (simp only [zH]; omega)))
  · refine fin_ret rfl rfl (spec_flat rfl ?_ rfl)
    show AV.bool false = AV.bool (decide (a = b))
    rw [decide_eq_false (by rintro rfl; exact hb rfl)]
  · have hlen : a.length = b.length := by omega
    refine awp_loopC (τ := Nat) (fun i => i ≤ a.length ∧ ∀ j, j < i → a.getD j 0 = b.getD j 0) (fun i => ⟨9, [(13, .int .i64 i), (12, .int .i64 a.length), (0, .roI a), (1, .roI b)], [], []⟩) (fun i => a.length - i) 0 [] ⟨rfl, by simp [zE0, zE1, zE2, zE3, zE4, zE5, evp, evx, ev1, evLoad, evStore, evBin, isBoolK, forall_const, z38, tb, Nat.reduceAdd, Nat.reduceSub, Nat.reduceMul, Nat.reduceEqDiff, Nat.reduceLeDiff, Nat.reduceLT, Nat.reduceBEq, Nat.reduceBNe, ↓reduceIte, reduceIte], by simp only [zE0, zE1, zE2, zE3, zE4, zE5, evp, evx, ev1, evLoad, evStore, evBin, isBoolK, forall_const, z38, tb, Nat.reduceAdd, Nat.reduceSub, Nat.reduceMul, Nat.reduceEqDiff, Nat.reduceLeDiff, Nat.reduceLT, Nat.reduceBEq, Nat.reduceBNe, ↓reduceIte, reduceIte]⟩ ⟨by omega, by omega⟩ ?_
    rintro i ⟨hi, hj⟩
    repeat' first
      | with_reducible first | refine awp_seq ?_ | refine awp_block ?_ | refine next_then ?_ | refine next_block ?_ | refine exit_then ?_ | refine ret_then ?_ | refine ret_block ?_ | refine exit_here ?_ | refine awp_exit ?_ | refine awp_ret ?_ | refine awp_skip ?_ | refine awp_label ?_ | refine next_noGoto ?_ | refine ret_noGoto ?_ | refine exit_noGoto ?_ | refine awp_scope ?_
      | ((with_reducible refine exit_past ?_ ?_); exact rfl)
      | ((with_reducible refine isCond ?_); refine awp_condO rfl ?_ ?_ <;> intro hb <;> (try simp only [zH] at hb))
      | ((with_reducible refine isReg ?_); (first | refine awp_textM htb hmz noSp (fun _ => false) rfl rfl ?_ | refine awp_drawM hmo htb hmz noSp (fun _ => false) rfl rfl (by kernel_rfl) ?_); intro m' e' l' ob h; simp only [zE0, zE1, zE2, zE3, zE4, zE5, evp, evx, ev1, evLoad, evStore, evBin, isBoolK, forall_const, z38, tb, Nat.reduceAdd, Nat.reduceSub, Nat.reduceMul, Nat.reduceEqDiff, Nat.reduceLeDiff, Nat.reduceLT, Nat.reduceBEq, Nat.reduceBNe, ↓reduceIte, reduceIte] at h; obtain ⟨rfl, rfl, rfl, rfl⟩ := h; refine ⟨?_, ?_⟩)
      | ((with_reducible refine Ob.mk ?_); first | exact trivial | (intros; omega) | ((repeat' first | apply And.intro | (intro hg; have hg' := hg; try simp only [zH] at hg')) <;> first | assumption | omega | (simp only [zH]; omega)))
    · refine fin_ret rfl rfl (spec_flat rfl ?_ rfl)
      show AV.bool false = AV.bool (decide (a = b))
      rw [decide_eq_false (by rintro rfl; exact hb rfl)]
    · refine back (i + 1) [] ?_ ⟨by omega, fun j hj' => ?_⟩ (by omega)
      · (refine ⟨rfl, ?_, ?_⟩ <;> simp only [zE0, zE1, zE2, zE3, zE4, zE5, evp, evx, ev1, evLoad, evStore, evBin, isBoolK, forall_const, z38, tb, Nat.reduceAdd, Nat.reduceSub, Nat.reduceMul, Nat.reduceEqDiff, Nat.reduceLeDiff, Nat.reduceLT, Nat.reduceBEq, Nat.reduceBNe, ↓reduceIte, reduceIte, zI])
      · rcases Nat.lt_succ_iff_lt_or_eq.1 hj' with h | rfl
        · exact hj j h
        · exact hb
    · refine fin_ret rfl rfl (spec_flat rfl ?_ rfl)
      show AV.bool true = AV.bool (decide (a = b))
      rw [decide_eq_true (ext0 hlen fun j hj' => hj j (by omega))]
end Go.Proofs.Ytlckljphakkomaa.Cal
namespace Go.Proofs.Ytlckljphakkomaa.Cal
open Go
theorem getD_mem {a : List Int} {j : Nat} (h : j < a.length) : a.getD j 0 ∈ a := by simp [List.getD_eq_getElem?_getD, h]
end Go.Proofs.Ytlckljphakkomaa.Cal
