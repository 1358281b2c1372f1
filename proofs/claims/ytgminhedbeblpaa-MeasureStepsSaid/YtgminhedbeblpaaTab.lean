/- The types of this seat, as the calculus sees them. -/
import Derived.Test.YtgminhedbeblpaaCal26
import Derived.Test.YtgminhedbeblpaaProg
set_option linter.unusedVariables false
set_option linter.unusedSimpArgs false
namespace Go.Proofs.Ytgminhedbeblpaa.Cal
open Go

theorem tok2 : TOK Try.prog 2 ⟨.leaf, 1, 8, .int .i64 0⟩ := tok_leaf (d := (.int .i64)) (by kernel_rfl) (by kernel_rfl) rfl rfl rfl
theorem tok3 : TOK Try.prog 3 ⟨.leaf, 1, 8, .int .i64 0⟩ := tok_leaf (d := (.int .i64)) (by kernel_rfl) (by kernel_rfl) rfl rfl rfl
theorem tok4 : TOK Try.prog 4 ⟨.bool, 1, 1, .bool false⟩ := tok_bool (by kernel_rfl) (by kernel_rfl) rfl rfl
theorem tok22 : TOK Try.prog 22 ⟨.slc 3, 1, 24, .cst (.slice none 0 0)⟩ := tok_slc (by kernel_rfl) (by kernel_rfl) rfl rfl
theorem tok23 : TOK Try.prog 23 ⟨.slc 22, 1, 24, .cst (.slice none 0 0)⟩ := tok_slc (by kernel_rfl) (by kernel_rfl) rfl rfl
theorem tok24 : TOK Try.prog 24 ⟨.str [(0, 1, false), (1, 1, false), (2, 1, false)], 3, 72, .agg (.cons (.cst (.slice none 0 0)) (.cons (.cst (.slice none 0 0)) (.cons (.cst (.slice none 0 0)) .nil)))⟩ := tok_str (by kernel_rfl) (by kernel_rfl) rfl rfl
theorem tok25 : TOK Try.prog 25 ⟨.str [(0, 1, false), (1, 1, false), (2, 1, false)], 3, 72, .agg (.cons (.cst (.slice none 0 0)) (.cons (.cst (.slice none 0 0)) (.cons (.cst (.slice none 0 0)) .nil)))⟩ := tok_str (by kernel_rfl) (by kernel_rfl) rfl rfl
theorem tok26 : TOK Try.prog 26 ⟨.leaf, 1, 8, .cst .nilFunc⟩ := tok_leaf (d := (.func #[3, 3, 25] #[4] false)) (by kernel_rfl) (by kernel_rfl) rfl rfl rfl
theorem tok27 : TOK Try.prog 27 ⟨.leaf, 1, 8, .cst .nilFunc⟩ := tok_leaf (d := (.func #[] #[4] false)) (by kernel_rfl) (by kernel_rfl) rfl rfl rfl
theorem tok28 : TOK Try.prog 28 ⟨.slc 39, 1, 24, .cst (.slice none 0 0)⟩ := tok_slc (by kernel_rfl) (by kernel_rfl) rfl rfl
theorem tok29 : TOK Try.prog 29 ⟨.leaf, 1, 8, .int .i64 0⟩ := tok_leaf (d := (.int .i64)) (by kernel_rfl) (by kernel_rfl) rfl rfl rfl
theorem tok31 : TOK Try.prog 31 ⟨.leaf, 1, 8, .cst .nilFunc⟩ := tok_leaf (d := (.func #[25] #[28, 29] false)) (by kernel_rfl) (by kernel_rfl) rfl rfl rfl
theorem tok32 : TOK Try.prog 32 ⟨.leaf, 1, 8, .cst .nilFunc⟩ := tok_leaf (d := (.func #[25] #[4] false)) (by kernel_rfl) (by kernel_rfl) rfl rfl rfl
theorem tok33 : TOK Try.prog 33 ⟨.slc 37, 1, 24, .cst (.slice none 0 0)⟩ := tok_slc (by kernel_rfl) (by kernel_rfl) rfl rfl
theorem tok34 : TOK Try.prog 34 ⟨.leaf, 1, 8, .cst .nilFunc⟩ := tok_leaf (d := (.func #[25] #[33] false)) (by kernel_rfl) (by kernel_rfl) rfl rfl rfl
theorem tok35 : TOK Try.prog 35 ⟨.leaf, 1, 8, .cst .nilFunc⟩ := tok_leaf (d := (.func #[37, 37] #[4] false)) (by kernel_rfl) (by kernel_rfl) rfl rfl rfl
theorem tok36 : TOK Try.prog 36 ⟨.str [(0, 1, false), (1, 1, false)], 2, 32, .agg (.cons (.bool false) (.cons (.cst (.slice none 0 0)) .nil))⟩ := tok_str (by kernel_rfl) (by kernel_rfl) rfl rfl
theorem tok37 : TOK Try.prog 37 ⟨.str [(0, 1, false), (1, 1, false)], 2, 32, .agg (.cons (.bool false) (.cons (.cst (.slice none 0 0)) .nil))⟩ := tok_str (by kernel_rfl) (by kernel_rfl) rfl rfl
theorem tok38 : TOK Try.prog 38 ⟨.leaf, 1, 8, .cst .nilFunc⟩ := tok_leaf (d := (.func #[39] #[37] false)) (by kernel_rfl) (by kernel_rfl) rfl rfl rfl
theorem tok39 : TOK Try.prog 39 ⟨.str [(0, 1, false), (1, 1, false)], 2, 32, .agg (.cons (.bool false) (.cons (.cst (.slice none 0 0)) .nil))⟩ := tok_str (by kernel_rfl) (by kernel_rfl) rfl rfl
theorem tok40 : TOK Try.prog 40 ⟨.str [(0, 1, false), (1, 1, false)], 2, 48, .agg (.cons (.cst (.slice none 0 0)) (.cons (.cst (.slice none 0 0)) .nil))⟩ := tok_str (by kernel_rfl) (by kernel_rfl) rfl rfl
theorem tok41 : TOK Try.prog 41 ⟨.str [(0, 1, false), (1, 1, false)], 2, 48, .agg (.cons (.cst (.slice none 0 0)) (.cons (.cst (.slice none 0 0)) .nil))⟩ := tok_str (by kernel_rfl) (by kernel_rfl) rfl rfl
theorem tok43 : TOK Try.prog 43 ⟨.leaf, 1, 8, .cst .nilFunc⟩ := tok_leaf (d := (.func #[25] #[41, 29] false)) (by kernel_rfl) (by kernel_rfl) rfl rfl rfl
theorem tok45 : TOK Try.prog 45 ⟨.leaf, 1, 8, .cst .nilFunc⟩ := tok_leaf (d := (.func #[25] #[25, 29] false)) (by kernel_rfl) (by kernel_rfl) rfl rfl rfl
theorem tok46 : TOK Try.prog 46 ⟨.leaf, 1, 8, .cst .nilFunc⟩ := tok_leaf (d := (.func #[25, 41] #[4] false)) (by kernel_rfl) (by kernel_rfl) rfl rfl rfl
theorem tok47 : TOK Try.prog 47 ⟨.leaf, 1, 8, .cst .nilFunc⟩ := tok_leaf (d := (.func #[22, 22] #[4] false)) (by kernel_rfl) (by kernel_rfl) rfl rfl rfl
theorem tok48 : TOK Try.prog 48 ⟨.leaf, 1, 8, .cst .nilFunc⟩ := tok_leaf (d := (.func #[25] #[22] false)) (by kernel_rfl) (by kernel_rfl) rfl rfl rfl
theorem tok49 : TOK Try.prog 49 ⟨.leaf, 1, 8, .cst .nilFunc⟩ := tok_leaf (d := (.func #[33] #[4] false)) (by kernel_rfl) (by kernel_rfl) rfl rfl rfl
theorem tok51 : TOK Try.prog 51 ⟨.leaf, 1, 8, .cst .nilFunc⟩ := tok_leaf (d := (.func #[25, 39, 3] #[39, 29] false)) (by kernel_rfl) (by kernel_rfl) rfl rfl rfl
theorem tok52 : TOK Try.prog 52 ⟨.leaf, 1, 8, .cst .nilFunc⟩ := tok_leaf (d := (.func #[37] #[39] false)) (by kernel_rfl) (by kernel_rfl) rfl rfl rfl
theorem tok54 : TOK Try.prog 54 ⟨.leaf, 1, 8, .cst .nilFunc⟩ := tok_leaf (d := (.func #[25, 37, 3] #[37, 29] false)) (by kernel_rfl) (by kernel_rfl) rfl rfl rfl
theorem tok56 : TOK Try.prog 56 ⟨.leaf, 1, 8, .cst .nilFunc⟩ := tok_leaf (d := (.func #[25, 28] #[4, 29] false)) (by kernel_rfl) (by kernel_rfl) rfl rfl rfl
theorem tok57 : TOK Try.prog 57 ⟨.leaf, 1, 8, .cst .nilFunc⟩ := tok_leaf (d := (.func #[33] #[28] false)) (by kernel_rfl) (by kernel_rfl) rfl rfl rfl
theorem tok58 : TOK Try.prog 58 ⟨.leaf, 1, 8, .cst .nilFunc⟩ := tok_leaf (d := (.func #[25, 33] #[4, 29] false)) (by kernel_rfl) (by kernel_rfl) rfl rfl rfl
theorem tok59 : TOK Try.prog 59 ⟨.leaf, 1, 8, .cst .nilFunc⟩ := tok_leaf (d := (.func #[25, 37, 3, 33] #[4] false)) (by kernel_rfl) (by kernel_rfl) rfl rfl rfl
theorem tok60 : TOK Try.prog 60 ⟨.leaf, 1, 8, .cst .nilFunc⟩ := tok_leaf (d := (.func #[37, 37] #[3] false)) (by kernel_rfl) (by kernel_rfl) rfl rfl rfl
theorem tok61 : TOK Try.prog 61 ⟨.slc 4, 1, 24, .cst (.slice none 0 0)⟩ := tok_slc (by kernel_rfl) (by kernel_rfl) rfl rfl
theorem tok62 : TOK Try.prog 62 ⟨.leaf, 1, 8, .cst .nilFunc⟩ := tok_leaf (d := (.func #[25, 3, 22] #[61] false)) (by kernel_rfl) (by kernel_rfl) rfl rfl rfl
theorem tok63 : TOK Try.prog 63 ⟨.leaf, 1, 8, .cst .nilFunc⟩ := tok_leaf (d := (.func #[25, 33] #[4] false)) (by kernel_rfl) (by kernel_rfl) rfl rfl rfl
theorem tok64 : TOK Try.prog 64 ⟨.leaf, 1, 8, .cst .nilFunc⟩ := tok_leaf (d := (.func #[] #[25] false)) (by kernel_rfl) (by kernel_rfl) rfl rfl rfl
theorem tok66 : TOK Try.prog 66 ⟨.str [(0, 1, false), (1, 1, false)], 2, 48, .agg (.cons (.cst (.slice none 0 0)) (.cons (.cst (.slice none 0 0)) .nil))⟩ := tok_str (by kernel_rfl) (by kernel_rfl) rfl rfl
theorem tok67 : TOK Try.prog 67 ⟨.str [(0, 1, false), (1, 1, false)], 2, 48, .agg (.cons (.cst (.slice none 0 0)) (.cons (.cst (.slice none 0 0)) .nil))⟩ := tok_str (by kernel_rfl) (by kernel_rfl) rfl rfl
theorem tok68 : TOK Try.prog 68 ⟨.leaf, 1, 8, .cst .nilFunc⟩ := tok_leaf (d := (.func #[25] #[67] false)) (by kernel_rfl) (by kernel_rfl) rfl rfl rfl
theorem tok69 : TOK Try.prog 69 ⟨.leaf, 1, 8, .cst .nilFunc⟩ := tok_leaf (d := (.func #[25] #[28, 4] false)) (by kernel_rfl) (by kernel_rfl) rfl rfl rfl
theorem tok70 : TOK Try.prog 70 ⟨.leaf, 1, 8, .cst .nilFunc⟩ := tok_leaf (d := (.func #[22] #[22] false)) (by kernel_rfl) (by kernel_rfl) rfl rfl rfl
theorem tok72 : TOK Try.prog 72 ⟨.leaf, 1, 8, .cst .nilFunc⟩ := tok_leaf (d := (.func #[25] #[22, 22] false)) (by kernel_rfl) (by kernel_rfl) rfl rfl rfl
theorem tok73 : TOK Try.prog 73 ⟨.leaf, 1, 8, .cst .nilFunc⟩ := tok_leaf (d := (.func #[25, 22, 22, 33, 3] #[37] false)) (by kernel_rfl) (by kernel_rfl) rfl rfl rfl
theorem tok75 : TOK Try.prog 75 ⟨.leaf, 1, 8, .cst .nilFunc⟩ := tok_leaf (d := (.func #[25] #[61, 22, 4] false)) (by kernel_rfl) (by kernel_rfl) rfl rfl rfl
theorem tok76 : TOK Try.prog 76 ⟨.leaf, 1, 8, .cst .nilFunc⟩ := tok_leaf (d := (.func #[25] #[25] false)) (by kernel_rfl) (by kernel_rfl) rfl rfl rfl
theorem tok78 : TOK Try.prog 78 ⟨.leaf, 1, 8, .cst .nilFunc⟩ := tok_leaf (d := (.func #[25, 41, 3] #[25, 4] false)) (by kernel_rfl) (by kernel_rfl) rfl rfl rfl
theorem tok79 : TOK Try.prog 79 ⟨.leaf, 1, 8, .cst .nilFunc⟩ := tok_leaf (d := (.func #[25, 3] #[61] false)) (by kernel_rfl) (by kernel_rfl) rfl rfl rfl
theorem tok80 : TOK Try.prog 80 ⟨.leaf, 1, 8, .cst .nilFunc⟩ := tok_leaf (d := (.func #[25, 61] #[22] false)) (by kernel_rfl) (by kernel_rfl) rfl rfl rfl
theorem tok81 : TOK Try.prog 81 ⟨.leaf, 1, 8, .cst .nilFunc⟩ := tok_leaf (d := (.func #[39] #[4] false)) (by kernel_rfl) (by kernel_rfl) rfl rfl rfl
theorem tok82 : TOK Try.prog 82 ⟨.leaf, 1, 8, .cst .nilFunc⟩ := tok_leaf (d := (.func #[22, 3] #[4] false)) (by kernel_rfl) (by kernel_rfl) rfl rfl rfl
theorem tok83 : TOK Try.prog 83 ⟨.leaf, 1, 8, .cst .nilFunc⟩ := tok_leaf (d := (.func #[39, 3] #[39] false)) (by kernel_rfl) (by kernel_rfl) rfl rfl rfl
theorem tok84 : TOK Try.prog 84 ⟨.leaf, 1, 8, .cst .nilFunc⟩ := tok_leaf (d := (.func #[37, 22] #[4] false)) (by kernel_rfl) (by kernel_rfl) rfl rfl rfl
theorem tok85 : TOK Try.prog 85 ⟨.leaf, 1, 8, .cst .nilFunc⟩ := tok_leaf (d := (.func #[22, 22, 37, 3] #[37] false)) (by kernel_rfl) (by kernel_rfl) rfl rfl rfl
theorem tok86 : TOK Try.prog 86 ⟨.leaf, 1, 8, .cst .nilFunc⟩ := tok_leaf (d := (.func #[28, 81] #[4] false)) (by kernel_rfl) (by kernel_rfl) rfl rfl rfl
theorem tok88 : TOK Try.prog 88 ⟨.leaf, 1, 8, .cst .nilFunc⟩ := tok_leaf (d := (.func #[25, 28, 3] #[39, 3] false)) (by kernel_rfl) (by kernel_rfl) rfl rfl rfl
theorem tok89 : TOK Try.prog 89 ⟨.leaf, 1, 8, .cst .nilFunc⟩ := tok_leaf (d := (.func #[39, 39] #[4] false)) (by kernel_rfl) (by kernel_rfl) rfl rfl rfl
theorem tok90 : TOK Try.prog 90 ⟨.map, 1, 8, .cst (.map none)⟩ := tok_map (by kernel_rfl) (by kernel_rfl) rfl rfl
theorem tok91 : TOK Try.prog 91 ⟨.leaf, 1, 8, .cst .nilFunc⟩ := tok_leaf (d := (.func #[102] #[] false)) (by kernel_rfl) (by kernel_rfl) rfl rfl rfl
theorem tok92 : TOK Try.prog 92 ⟨.leaf, 1, 8, .cst .nilFunc⟩ := tok_leaf (d := (.func #[102] #[] false)) (by kernel_rfl) (by kernel_rfl) rfl rfl rfl
theorem tok93 : TOK Try.prog 93 ⟨.leaf, 1, 8, .cst .nilFunc⟩ := tok_leaf (d := (.func #[94] #[92] false)) (by kernel_rfl) (by kernel_rfl) rfl rfl rfl
theorem tok94 : TOK Try.prog 94 ⟨.leaf, 1, 8, .cst (.pointer none)⟩ := tok_leaf (d := (.pointer 22)) (by kernel_rfl) (by kernel_rfl) rfl rfl rfl
theorem tok95 : TOK Try.prog 95 ⟨.leaf, 1, 8, .cst .nilFunc⟩ := tok_leaf (d := (.func #[25, 3, 3] #[61] false)) (by kernel_rfl) (by kernel_rfl) rfl rfl rfl
theorem tok96 : TOK Try.prog 96 ⟨.leaf, 1, 8, .cst .nilFunc⟩ := tok_leaf (d := (.func #[25, 61, 3, 61] #[61] false)) (by kernel_rfl) (by kernel_rfl) rfl rfl rfl
theorem tok97 : TOK Try.prog 97 ⟨.leaf, 1, 8, .cst .nilFunc⟩ := tok_leaf (d := (.func #[22, 3] #[3] false)) (by kernel_rfl) (by kernel_rfl) rfl rfl rfl
theorem tok98 : TOK Try.prog 98 ⟨.leaf, 1, 8, .cst .nilFunc⟩ := tok_leaf (d := (.func #[3] #[3] false)) (by kernel_rfl) (by kernel_rfl) rfl rfl rfl
theorem tok99 : TOK Try.prog 99 ⟨.leaf, 1, 8, .cst .nilFunc⟩ := tok_leaf (d := (.func #[28, 81] #[3] false)) (by kernel_rfl) (by kernel_rfl) rfl rfl rfl
theorem tok100 : TOK Try.prog 100 ⟨.leaf, 1, 8, .cst .nilFunc⟩ := tok_leaf (d := (.func #[22, 22, 101] #[3] false)) (by kernel_rfl) (by kernel_rfl) rfl rfl rfl
theorem tok101 : TOK Try.prog 101 ⟨.leaf, 1, 8, .cst .nilFunc⟩ := tok_leaf (d := (.func #[3, 3] #[3] false)) (by kernel_rfl) (by kernel_rfl) rfl rfl rfl
theorem tok102 : TOK Try.prog 102 ⟨.leaf, 1, 8, .cst .nilFunc⟩ := tok_leaf (d := (.func #[3] #[4] false)) (by kernel_rfl) (by kernel_rfl) rfl rfl rfl
theorem tok109 : TOK Try.prog 109 ⟨.leaf, 1, 8, .cst .nilFunc⟩ := tok_leaf (d := (.func #[] #[3] false)) (by kernel_rfl) (by kernel_rfl) rfl rfl rfl

def tb : Nat → Option TI
  | 2 => some ⟨.leaf, 1, 8, .int .i64 0⟩
  | 3 => some ⟨.leaf, 1, 8, .int .i64 0⟩
  | 4 => some ⟨.bool, 1, 1, .bool false⟩
  | 22 => some ⟨.slc 3, 1, 24, .cst (.slice none 0 0)⟩
  | 23 => some ⟨.slc 22, 1, 24, .cst (.slice none 0 0)⟩
  | 24 => some ⟨.str [(0, 1, false), (1, 1, false), (2, 1, false)], 3, 72, .agg (.cons (.cst (.slice none 0 0)) (.cons (.cst (.slice none 0 0)) (.cons (.cst (.slice none 0 0)) .nil)))⟩
  | 25 => some ⟨.str [(0, 1, false), (1, 1, false), (2, 1, false)], 3, 72, .agg (.cons (.cst (.slice none 0 0)) (.cons (.cst (.slice none 0 0)) (.cons (.cst (.slice none 0 0)) .nil)))⟩
  | 26 => some ⟨.leaf, 1, 8, .cst .nilFunc⟩
  | 27 => some ⟨.leaf, 1, 8, .cst .nilFunc⟩
  | 28 => some ⟨.slc 39, 1, 24, .cst (.slice none 0 0)⟩
  | 29 => some ⟨.leaf, 1, 8, .int .i64 0⟩
  | 31 => some ⟨.leaf, 1, 8, .cst .nilFunc⟩
  | 32 => some ⟨.leaf, 1, 8, .cst .nilFunc⟩
  | 33 => some ⟨.slc 37, 1, 24, .cst (.slice none 0 0)⟩
  | 34 => some ⟨.leaf, 1, 8, .cst .nilFunc⟩
  | 35 => some ⟨.leaf, 1, 8, .cst .nilFunc⟩
  | 36 => some ⟨.str [(0, 1, false), (1, 1, false)], 2, 32, .agg (.cons (.bool false) (.cons (.cst (.slice none 0 0)) .nil))⟩
  | 37 => some ⟨.str [(0, 1, false), (1, 1, false)], 2, 32, .agg (.cons (.bool false) (.cons (.cst (.slice none 0 0)) .nil))⟩
  | 38 => some ⟨.leaf, 1, 8, .cst .nilFunc⟩
  | 39 => some ⟨.str [(0, 1, false), (1, 1, false)], 2, 32, .agg (.cons (.bool false) (.cons (.cst (.slice none 0 0)) .nil))⟩
  | 40 => some ⟨.str [(0, 1, false), (1, 1, false)], 2, 48, .agg (.cons (.cst (.slice none 0 0)) (.cons (.cst (.slice none 0 0)) .nil))⟩
  | 41 => some ⟨.str [(0, 1, false), (1, 1, false)], 2, 48, .agg (.cons (.cst (.slice none 0 0)) (.cons (.cst (.slice none 0 0)) .nil))⟩
  | 43 => some ⟨.leaf, 1, 8, .cst .nilFunc⟩
  | 45 => some ⟨.leaf, 1, 8, .cst .nilFunc⟩
  | 46 => some ⟨.leaf, 1, 8, .cst .nilFunc⟩
  | 47 => some ⟨.leaf, 1, 8, .cst .nilFunc⟩
  | 48 => some ⟨.leaf, 1, 8, .cst .nilFunc⟩
  | 49 => some ⟨.leaf, 1, 8, .cst .nilFunc⟩
  | 51 => some ⟨.leaf, 1, 8, .cst .nilFunc⟩
  | 52 => some ⟨.leaf, 1, 8, .cst .nilFunc⟩
  | 54 => some ⟨.leaf, 1, 8, .cst .nilFunc⟩
  | 56 => some ⟨.leaf, 1, 8, .cst .nilFunc⟩
  | 57 => some ⟨.leaf, 1, 8, .cst .nilFunc⟩
  | 58 => some ⟨.leaf, 1, 8, .cst .nilFunc⟩
  | 59 => some ⟨.leaf, 1, 8, .cst .nilFunc⟩
  | 60 => some ⟨.leaf, 1, 8, .cst .nilFunc⟩
  | 61 => some ⟨.slc 4, 1, 24, .cst (.slice none 0 0)⟩
  | 62 => some ⟨.leaf, 1, 8, .cst .nilFunc⟩
  | 63 => some ⟨.leaf, 1, 8, .cst .nilFunc⟩
  | 64 => some ⟨.leaf, 1, 8, .cst .nilFunc⟩
  | 66 => some ⟨.str [(0, 1, false), (1, 1, false)], 2, 48, .agg (.cons (.cst (.slice none 0 0)) (.cons (.cst (.slice none 0 0)) .nil))⟩
  | 67 => some ⟨.str [(0, 1, false), (1, 1, false)], 2, 48, .agg (.cons (.cst (.slice none 0 0)) (.cons (.cst (.slice none 0 0)) .nil))⟩
  | 68 => some ⟨.leaf, 1, 8, .cst .nilFunc⟩
  | 69 => some ⟨.leaf, 1, 8, .cst .nilFunc⟩
  | 70 => some ⟨.leaf, 1, 8, .cst .nilFunc⟩
  | 72 => some ⟨.leaf, 1, 8, .cst .nilFunc⟩
  | 73 => some ⟨.leaf, 1, 8, .cst .nilFunc⟩
  | 75 => some ⟨.leaf, 1, 8, .cst .nilFunc⟩
  | 76 => some ⟨.leaf, 1, 8, .cst .nilFunc⟩
  | 78 => some ⟨.leaf, 1, 8, .cst .nilFunc⟩
  | 79 => some ⟨.leaf, 1, 8, .cst .nilFunc⟩
  | 80 => some ⟨.leaf, 1, 8, .cst .nilFunc⟩
  | 81 => some ⟨.leaf, 1, 8, .cst .nilFunc⟩
  | 82 => some ⟨.leaf, 1, 8, .cst .nilFunc⟩
  | 83 => some ⟨.leaf, 1, 8, .cst .nilFunc⟩
  | 84 => some ⟨.leaf, 1, 8, .cst .nilFunc⟩
  | 85 => some ⟨.leaf, 1, 8, .cst .nilFunc⟩
  | 86 => some ⟨.leaf, 1, 8, .cst .nilFunc⟩
  | 88 => some ⟨.leaf, 1, 8, .cst .nilFunc⟩
  | 89 => some ⟨.leaf, 1, 8, .cst .nilFunc⟩
  | 90 => some ⟨.map, 1, 8, .cst (.map none)⟩
  | 91 => some ⟨.leaf, 1, 8, .cst .nilFunc⟩
  | 92 => some ⟨.leaf, 1, 8, .cst .nilFunc⟩
  | 93 => some ⟨.leaf, 1, 8, .cst .nilFunc⟩
  | 94 => some ⟨.leaf, 1, 8, .cst (.pointer none)⟩
  | 95 => some ⟨.leaf, 1, 8, .cst .nilFunc⟩
  | 96 => some ⟨.leaf, 1, 8, .cst .nilFunc⟩
  | 97 => some ⟨.leaf, 1, 8, .cst .nilFunc⟩
  | 98 => some ⟨.leaf, 1, 8, .cst .nilFunc⟩
  | 99 => some ⟨.leaf, 1, 8, .cst .nilFunc⟩
  | 100 => some ⟨.leaf, 1, 8, .cst .nilFunc⟩
  | 101 => some ⟨.leaf, 1, 8, .cst .nilFunc⟩
  | 102 => some ⟨.leaf, 1, 8, .cst .nilFunc⟩
  | 109 => some ⟨.leaf, 1, 8, .cst .nilFunc⟩
  | _ => none

theorem htb : TabOK Try.prog tb := by
  intro t i h
  unfold tb at h
  split at h
  · cases h; exact tok2
  · cases h; exact tok3
  · cases h; exact tok4
  · cases h; exact tok22
  · cases h; exact tok23
  · cases h; exact tok24
  · cases h; exact tok25
  · cases h; exact tok26
  · cases h; exact tok27
  · cases h; exact tok28
  · cases h; exact tok29
  · cases h; exact tok31
  · cases h; exact tok32
  · cases h; exact tok33
  · cases h; exact tok34
  · cases h; exact tok35
  · cases h; exact tok36
  · cases h; exact tok37
  · cases h; exact tok38
  · cases h; exact tok39
  · cases h; exact tok40
  · cases h; exact tok41
  · cases h; exact tok43
  · cases h; exact tok45
  · cases h; exact tok46
  · cases h; exact tok47
  · cases h; exact tok48
  · cases h; exact tok49
  · cases h; exact tok51
  · cases h; exact tok52
  · cases h; exact tok54
  · cases h; exact tok56
  · cases h; exact tok57
  · cases h; exact tok58
  · cases h; exact tok59
  · cases h; exact tok60
  · cases h; exact tok61
  · cases h; exact tok62
  · cases h; exact tok63
  · cases h; exact tok64
  · cases h; exact tok66
  · cases h; exact tok67
  · cases h; exact tok68
  · cases h; exact tok69
  · cases h; exact tok70
  · cases h; exact tok72
  · cases h; exact tok73
  · cases h; exact tok75
  · cases h; exact tok76
  · cases h; exact tok78
  · cases h; exact tok79
  · cases h; exact tok80
  · cases h; exact tok81
  · cases h; exact tok82
  · cases h; exact tok83
  · cases h; exact tok84
  · cases h; exact tok85
  · cases h; exact tok86
  · cases h; exact tok88
  · cases h; exact tok89
  · cases h; exact tok90
  · cases h; exact tok91
  · cases h; exact tok92
  · cases h; exact tok93
  · cases h; exact tok94
  · cases h; exact tok95
  · cases h; exact tok96
  · cases h; exact tok97
  · cases h; exact tok98
  · cases h; exact tok99
  · cases h; exact tok100
  · cases h; exact tok101
  · cases h; exact tok102
  · cases h; exact tok109
  · cases h
theorem hmz : ∀ t i, tb t = some i → men noK i.zero = true := by
  intro t i h
  unfold tb at h
  split at h <;> first | (cases h; done) | (cases h; rfl)
theorem hmo : Try.prog.follows .mixedOrders = true := by kernel_rfl

end Go.Proofs.Ytgminhedbeblpaa.Cal
