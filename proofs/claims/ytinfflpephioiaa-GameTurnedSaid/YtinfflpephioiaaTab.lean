/- The types of this seat, as the calculus sees them. -/
import Derived.Test.YtinfflpephioiaaCal26
import Derived.Test.YtinfflpephioiaaProg
set_option linter.unusedVariables false
set_option linter.unusedSimpArgs false
namespace Go.Proofs.Ytinfflpephioiaa.Cal
open Go

theorem tok2 : TOK Try.prog 2 ⟨.leaf, 1, 8, .int .i64 0⟩ := tok_leaf (d := (.int .i64)) (by kernel_rfl) (by kernel_rfl) rfl rfl rfl
theorem tok3 : TOK Try.prog 3 ⟨.leaf, 1, 8, .int .i64 0⟩ := tok_leaf (d := (.int .i64)) (by kernel_rfl) (by kernel_rfl) rfl rfl rfl
theorem tok4 : TOK Try.prog 4 ⟨.bool, 1, 1, .bool false⟩ := tok_bool (by kernel_rfl) (by kernel_rfl) rfl rfl
theorem tok22 : TOK Try.prog 22 ⟨.slc 3, 1, 24, .cst (.slice none 0 0)⟩ := tok_slc (by kernel_rfl) (by kernel_rfl) rfl rfl
theorem tok23 : TOK Try.prog 23 ⟨.slc 22, 1, 24, .cst (.slice none 0 0)⟩ := tok_slc (by kernel_rfl) (by kernel_rfl) rfl rfl
theorem tok24 : TOK Try.prog 24 ⟨.str [(0, 1, false), (1, 1, false), (2, 1, false)], 3, 72, .agg (.cons (.cst (.slice none 0 0)) (.cons (.cst (.slice none 0 0)) (.cons (.cst (.slice none 0 0)) .nil)))⟩ := tok_str (by kernel_rfl) (by kernel_rfl) rfl rfl
theorem tok25 : TOK Try.prog 25 ⟨.str [(0, 1, false), (1, 1, false), (2, 1, false)], 3, 72, .agg (.cons (.cst (.slice none 0 0)) (.cons (.cst (.slice none 0 0)) (.cons (.cst (.slice none 0 0)) .nil)))⟩ := tok_str (by kernel_rfl) (by kernel_rfl) rfl rfl
theorem tok26 : TOK Try.prog 26 ⟨.slc 4, 1, 24, .cst (.slice none 0 0)⟩ := tok_slc (by kernel_rfl) (by kernel_rfl) rfl rfl
theorem tok27 : TOK Try.prog 27 ⟨.leaf, 1, 8, .cst .nilFunc⟩ := tok_leaf (d := (.func #[3, 3, 25] #[4] false)) (by kernel_rfl) (by kernel_rfl) rfl rfl rfl
theorem tok28 : TOK Try.prog 28 ⟨.leaf, 1, 8, .cst .nilFunc⟩ := tok_leaf (d := (.func #[] #[4] false)) (by kernel_rfl) (by kernel_rfl) rfl rfl rfl
theorem tok29 : TOK Try.prog 29 ⟨.leaf, 1, 8, .int .i64 0⟩ := tok_leaf (d := (.int .i64)) (by kernel_rfl) (by kernel_rfl) rfl rfl rfl
theorem tok31 : TOK Try.prog 31 ⟨.leaf, 1, 8, .cst .nilFunc⟩ := tok_leaf (d := (.func #[25, 3, 26] #[22, 22, 29] false)) (by kernel_rfl) (by kernel_rfl) rfl rfl rfl
theorem tok33 : TOK Try.prog 33 ⟨.leaf, 1, 8, .cst .nilFunc⟩ := tok_leaf (d := (.func #[25, 22, 3] #[22, 22, 3, 29] false)) (by kernel_rfl) (by kernel_rfl) rfl rfl rfl
theorem tok34 : TOK Try.prog 34 ⟨.leaf, 1, 8, .cst .nilFunc⟩ := tok_leaf (d := (.func #[25] #[4] false)) (by kernel_rfl) (by kernel_rfl) rfl rfl rfl
theorem tok35 : TOK Try.prog 35 ⟨.leaf, 1, 8, .cst .nilFunc⟩ := tok_leaf (d := (.func #[22, 22] #[4] false)) (by kernel_rfl) (by kernel_rfl) rfl rfl rfl
theorem tok36 : TOK Try.prog 36 ⟨.leaf, 1, 8, .cst .nilFunc⟩ := tok_leaf (d := (.func #[25, 3, 26, 22, 3] #[4] false)) (by kernel_rfl) (by kernel_rfl) rfl rfl rfl
theorem tok37 : TOK Try.prog 37 ⟨.leaf, 1, 8, .cst .nilFunc⟩ := tok_leaf (d := (.func #[3] #[3] false)) (by kernel_rfl) (by kernel_rfl) rfl rfl rfl
theorem tok39 : TOK Try.prog 39 ⟨.leaf, 1, 8, .cst .nilFunc⟩ := tok_leaf (d := (.func #[25] #[25, 29] false)) (by kernel_rfl) (by kernel_rfl) rfl rfl rfl
theorem tok41 : TOK Try.prog 41 ⟨.leaf, 1, 8, .cst .nilFunc⟩ := tok_leaf (d := (.func #[25, 26] #[25, 22, 29] false)) (by kernel_rfl) (by kernel_rfl) rfl rfl rfl
theorem tok42 : TOK Try.prog 42 ⟨.leaf, 1, 8, .cst .nilFunc⟩ := tok_leaf (d := (.func #[25, 22, 3] #[25, 29] false)) (by kernel_rfl) (by kernel_rfl) rfl rfl rfl
theorem tok43 : TOK Try.prog 43 ⟨.leaf, 1, 8, .cst .nilFunc⟩ := tok_leaf (d := (.func #[25, 25] #[4] false)) (by kernel_rfl) (by kernel_rfl) rfl rfl rfl
theorem tok44 : TOK Try.prog 44 ⟨.leaf, 1, 8, .cst .nilFunc⟩ := tok_leaf (d := (.func #[25, 26, 22, 3] #[4] false)) (by kernel_rfl) (by kernel_rfl) rfl rfl rfl
theorem tok46 : TOK Try.prog 46 ⟨.leaf, 1, 8, .cst .nilFunc⟩ := tok_leaf (d := (.func #[25, 3] #[26, 29] false)) (by kernel_rfl) (by kernel_rfl) rfl rfl rfl
theorem tok47 : TOK Try.prog 47 ⟨.leaf, 1, 8, .cst .nilFunc⟩ := tok_leaf (d := (.func #[25, 3, 22] #[4] false)) (by kernel_rfl) (by kernel_rfl) rfl rfl rfl
theorem tok48 : TOK Try.prog 48 ⟨.leaf, 1, 8, .cst .nilFunc⟩ := tok_leaf (d := (.func #[25, 22, 3, 3] #[4] false)) (by kernel_rfl) (by kernel_rfl) rfl rfl rfl
theorem tok49 : TOK Try.prog 49 ⟨.leaf, 1, 8, .cst .nilFunc⟩ := tok_leaf (d := (.func #[25] #[23] false)) (by kernel_rfl) (by kernel_rfl) rfl rfl rfl
theorem tok50 : TOK Try.prog 50 ⟨.leaf, 1, 8, .cst .nilFunc⟩ := tok_leaf (d := (.func #[60] #[] false)) (by kernel_rfl) (by kernel_rfl) rfl rfl rfl
theorem tok51 : TOK Try.prog 51 ⟨.leaf, 1, 8, .cst .nilFunc⟩ := tok_leaf (d := (.func #[60] #[] false)) (by kernel_rfl) (by kernel_rfl) rfl rfl rfl
theorem tok52 : TOK Try.prog 52 ⟨.leaf, 1, 8, .cst .nilFunc⟩ := tok_leaf (d := (.func #[53] #[51] false)) (by kernel_rfl) (by kernel_rfl) rfl rfl rfl
theorem tok53 : TOK Try.prog 53 ⟨.leaf, 1, 8, .cst (.pointer none)⟩ := tok_leaf (d := (.pointer 22)) (by kernel_rfl) (by kernel_rfl) rfl rfl rfl
theorem tok54 : TOK Try.prog 54 ⟨.leaf, 1, 8, .cst .nilFunc⟩ := tok_leaf (d := (.func #[25, 3, 26] #[22] false)) (by kernel_rfl) (by kernel_rfl) rfl rfl rfl
theorem tok55 : TOK Try.prog 55 ⟨.leaf, 1, 8, .cst .nilFunc⟩ := tok_leaf (d := (.func #[22, 3] #[4] false)) (by kernel_rfl) (by kernel_rfl) rfl rfl rfl
theorem tok56 : TOK Try.prog 56 ⟨.leaf, 1, 8, .cst .nilFunc⟩ := tok_leaf (d := (.func #[22] #[22] false)) (by kernel_rfl) (by kernel_rfl) rfl rfl rfl
theorem tok57 : TOK Try.prog 57 ⟨.leaf, 1, 8, .cst .nilFunc⟩ := tok_leaf (d := (.func #[25] #[25] false)) (by kernel_rfl) (by kernel_rfl) rfl rfl rfl
theorem tok58 : TOK Try.prog 58 ⟨.leaf, 1, 8, .cst .nilFunc⟩ := tok_leaf (d := (.func #[25, 3, 26] #[] false)) (by kernel_rfl) (by kernel_rfl) rfl rfl rfl
theorem tok59 : TOK Try.prog 59 ⟨.leaf, 1, 8, .cst .nilFunc⟩ := tok_leaf (d := (.func #[25, 3] #[26] false)) (by kernel_rfl) (by kernel_rfl) rfl rfl rfl
theorem tok60 : TOK Try.prog 60 ⟨.leaf, 1, 8, .cst .nilFunc⟩ := tok_leaf (d := (.func #[3] #[4] false)) (by kernel_rfl) (by kernel_rfl) rfl rfl rfl
theorem tok61 : TOK Try.prog 61 ⟨.leaf, 1, 8, .cst .nilFunc⟩ := tok_leaf (d := (.func #[22, 3] #[3] false)) (by kernel_rfl) (by kernel_rfl) rfl rfl rfl
theorem tok63 : TOK Try.prog 63 ⟨.leaf, 1, 8, .cst .nilFunc⟩ := tok_leaf (d := (.func #[25, 3] #[22, 3] false)) (by kernel_rfl) (by kernel_rfl) rfl rfl rfl
theorem tok64 : TOK Try.prog 64 ⟨.leaf, 1, 8, .cst .nilFunc⟩ := tok_leaf (d := (.func #[25, 3, 3] #[26] false)) (by kernel_rfl) (by kernel_rfl) rfl rfl rfl
theorem tok65 : TOK Try.prog 65 ⟨.leaf, 1, 8, .cst .nilFunc⟩ := tok_leaf (d := (.func #[3] #[] false)) (by kernel_rfl) (by kernel_rfl) rfl rfl rfl
theorem tok72 : TOK Try.prog 72 ⟨.leaf, 1, 8, .cst .nilFunc⟩ := tok_leaf (d := (.func #[] #[3] false)) (by kernel_rfl) (by kernel_rfl) rfl rfl rfl

def tb : Nat → Option TI
  | 2 => some ⟨.leaf, 1, 8, .int .i64 0⟩
  | 3 => some ⟨.leaf, 1, 8, .int .i64 0⟩
  | 4 => some ⟨.bool, 1, 1, .bool false⟩
  | 22 => some ⟨.slc 3, 1, 24, .cst (.slice none 0 0)⟩
  | 23 => some ⟨.slc 22, 1, 24, .cst (.slice none 0 0)⟩
  | 24 => some ⟨.str [(0, 1, false), (1, 1, false), (2, 1, false)], 3, 72, .agg (.cons (.cst (.slice none 0 0)) (.cons (.cst (.slice none 0 0)) (.cons (.cst (.slice none 0 0)) .nil)))⟩
  | 25 => some ⟨.str [(0, 1, false), (1, 1, false), (2, 1, false)], 3, 72, .agg (.cons (.cst (.slice none 0 0)) (.cons (.cst (.slice none 0 0)) (.cons (.cst (.slice none 0 0)) .nil)))⟩
  | 26 => some ⟨.slc 4, 1, 24, .cst (.slice none 0 0)⟩
  | 27 => some ⟨.leaf, 1, 8, .cst .nilFunc⟩
  | 28 => some ⟨.leaf, 1, 8, .cst .nilFunc⟩
  | 29 => some ⟨.leaf, 1, 8, .int .i64 0⟩
  | 31 => some ⟨.leaf, 1, 8, .cst .nilFunc⟩
  | 33 => some ⟨.leaf, 1, 8, .cst .nilFunc⟩
  | 34 => some ⟨.leaf, 1, 8, .cst .nilFunc⟩
  | 35 => some ⟨.leaf, 1, 8, .cst .nilFunc⟩
  | 36 => some ⟨.leaf, 1, 8, .cst .nilFunc⟩
  | 37 => some ⟨.leaf, 1, 8, .cst .nilFunc⟩
  | 39 => some ⟨.leaf, 1, 8, .cst .nilFunc⟩
  | 41 => some ⟨.leaf, 1, 8, .cst .nilFunc⟩
  | 42 => some ⟨.leaf, 1, 8, .cst .nilFunc⟩
  | 43 => some ⟨.leaf, 1, 8, .cst .nilFunc⟩
  | 44 => some ⟨.leaf, 1, 8, .cst .nilFunc⟩
  | 46 => some ⟨.leaf, 1, 8, .cst .nilFunc⟩
  | 47 => some ⟨.leaf, 1, 8, .cst .nilFunc⟩
  | 48 => some ⟨.leaf, 1, 8, .cst .nilFunc⟩
  | 49 => some ⟨.leaf, 1, 8, .cst .nilFunc⟩
  | 50 => some ⟨.leaf, 1, 8, .cst .nilFunc⟩
  | 51 => some ⟨.leaf, 1, 8, .cst .nilFunc⟩
  | 52 => some ⟨.leaf, 1, 8, .cst .nilFunc⟩
  | 53 => some ⟨.leaf, 1, 8, .cst (.pointer none)⟩
  | 54 => some ⟨.leaf, 1, 8, .cst .nilFunc⟩
  | 55 => some ⟨.leaf, 1, 8, .cst .nilFunc⟩
  | 56 => some ⟨.leaf, 1, 8, .cst .nilFunc⟩
  | 57 => some ⟨.leaf, 1, 8, .cst .nilFunc⟩
  | 58 => some ⟨.leaf, 1, 8, .cst .nilFunc⟩
  | 59 => some ⟨.leaf, 1, 8, .cst .nilFunc⟩
  | 60 => some ⟨.leaf, 1, 8, .cst .nilFunc⟩
  | 61 => some ⟨.leaf, 1, 8, .cst .nilFunc⟩
  | 63 => some ⟨.leaf, 1, 8, .cst .nilFunc⟩
  | 64 => some ⟨.leaf, 1, 8, .cst .nilFunc⟩
  | 65 => some ⟨.leaf, 1, 8, .cst .nilFunc⟩
  | 72 => some ⟨.leaf, 1, 8, .cst .nilFunc⟩
  | _ => none

theorem htb : TabOK Try.prog tb := by
  intro t i h
  unfold tb at h
  split at h
  · cases h; exact tok2
  · cases h; exact tok3
  · cases h; exact tok4
  · cases h; exact tok22
  · cases h; exact tok23
  · cases h; exact tok24
  · cases h; exact tok25
  · cases h; exact tok26
  · cases h; exact tok27
  · cases h; exact tok28
  · cases h; exact tok29
  · cases h; exact tok31
  · cases h; exact tok33
  · cases h; exact tok34
  · cases h; exact tok35
  · cases h; exact tok36
  · cases h; exact tok37
  · cases h; exact tok39
  · cases h; exact tok41
  · cases h; exact tok42
  · cases h; exact tok43
  · cases h; exact tok44
  · cases h; exact tok46
  · cases h; exact tok47
  · cases h; exact tok48
  · cases h; exact tok49
  · cases h; exact tok50
  · cases h; exact tok51
  · cases h; exact tok52
  · cases h; exact tok53
  · cases h; exact tok54
  · cases h; exact tok55
  · cases h; exact tok56
  · cases h; exact tok57
  · cases h; exact tok58
  · cases h; exact tok59
  · cases h; exact tok60
  · cases h; exact tok61
  · cases h; exact tok63
  · cases h; exact tok64
  · cases h; exact tok65
  · cases h; exact tok72
  · cases h
theorem hmz : ∀ t i, tb t = some i → men noK i.zero = true := by
  intro t i h
  unfold tb at h
  split at h <;> first | (cases h; done) | (cases h; rfl)
theorem hmo : Try.prog.follows .mixedOrders = true := by kernel_rfl

end Go.Proofs.Ytinfflpephioiaa.Cal
