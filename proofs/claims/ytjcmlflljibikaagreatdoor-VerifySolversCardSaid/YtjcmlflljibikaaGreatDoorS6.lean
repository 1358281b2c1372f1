/- Own texts, merged. -/
import Derived.Test.YtjcmlflljibikaaGreatDoorProg
import Derived.Test.YtjcmlflljibikaaGreatDoorS5
set_option linter.unusedVariables false
set_option linter.unusedSimpArgs false
open Nat (reduceAdd reduceSub reduceMul reduceEqDiff reduceLeDiff reduceLT)
namespace Go.Proofs.YtjcmlflljibikaaGreatDoor.Cal
open Go
theorem tok2 : TOK Tryz.prog 2 ⟨.leaf,1,8,.int .i64 0⟩:=Zah (d:=(.int .i64)) (by kernel_rfl) (by kernel_rfl) rfl rfl rfl
theorem tok3 : TOK Tryz.prog 3 ⟨.leaf,1,8,.int .i64 0⟩:=Zah (d:=(.int .i64)) (by kernel_rfl) (by kernel_rfl) rfl rfl rfl
theorem tok4 : TOK Tryz.prog 4 ⟨.bool,1,1,.bool false⟩:=tok_bool (by kernel_rfl) (by kernel_rfl) rfl rfl
theorem tok22 : TOK Tryz.prog 22 ⟨.slc 3,1,24,.cst (.slice none 0 0)⟩:=Zg7 (by kernel_rfl) (by kernel_rfl) rfl rfl
theorem tok23 : TOK Tryz.prog 23 ⟨.slc 22,1,24,.cst (.slice none 0 0)⟩:=Zg7 (by kernel_rfl) (by kernel_rfl) rfl rfl
theorem tok24 : TOK Tryz.prog 24 ⟨.str [(0,1,false),(1,1,false),(2,1,false)],3,72,.agg (.cons (.cst (.slice none 0 0)) (.cons (.cst (.slice none 0 0)) (.cons (.cst (.slice none 0 0)) .nil)))⟩:=Zcb (by kernel_rfl) (by kernel_rfl) rfl rfl
theorem tok25 : TOK Tryz.prog 25 ⟨.str [(0,1,false),(1,1,false),(2,1,false)],3,72,.agg (.cons (.cst (.slice none 0 0)) (.cons (.cst (.slice none 0 0)) (.cons (.cst (.slice none 0 0)) .nil)))⟩:=Zcb (by kernel_rfl) (by kernel_rfl) rfl rfl
theorem tok26 : TOK Tryz.prog 26 ⟨.leaf,1,8,.cst .nilFunc⟩:=Zah (d:=(.func #[3,3,25] #[4] false)) (by kernel_rfl) (by kernel_rfl) rfl rfl rfl
theorem tok27 : TOK Tryz.prog 27 ⟨.leaf,1,8,.cst .nilFunc⟩:=Zah (d:=(.func #[] #[4] false)) (by kernel_rfl) (by kernel_rfl) rfl rfl rfl
theorem tok28 : TOK Tryz.prog 28 ⟨.str [(0,1,false),(1,1,false)],2,48,.agg (.cons (.cst (.slice none 0 0)) (.cons (.cst (.slice none 0 0)) .nil))⟩:=Zcb (by kernel_rfl) (by kernel_rfl) rfl rfl
theorem tok29 : TOK Tryz.prog 29 ⟨.str [(0,1,false),(1,1,false)],2,48,.agg (.cons (.cst (.slice none 0 0)) (.cons (.cst (.slice none 0 0)) .nil))⟩:=Zcb (by kernel_rfl) (by kernel_rfl) rfl rfl
theorem tok30 : TOK Tryz.prog 30 ⟨.leaf,1,8,.int .i64 0⟩:=Zah (d:=(.int .i64)) (by kernel_rfl) (by kernel_rfl) rfl rfl rfl
theorem tok32 : TOK Tryz.prog 32 ⟨.leaf,1,8,.cst .nilFunc⟩:=Zah (d:=(.func #[25] #[29,30] false)) (by kernel_rfl) (by kernel_rfl) rfl rfl rfl
theorem tok33 : TOK Tryz.prog 33 ⟨.leaf,1,8,.cst .nilFunc⟩:=Zah (d:=(.func #[25,29] #[4] false)) (by kernel_rfl) (by kernel_rfl) rfl rfl rfl
theorem tok34 : TOK Tryz.prog 34 ⟨.leaf,1,8,.cst .nilFunc⟩:=Zah (d:=(.func #[25] #[4] false)) (by kernel_rfl) (by kernel_rfl) rfl rfl rfl
theorem tok35 : TOK Tryz.prog 35 ⟨.str [(0,1,false),(1,1,false)],2,48,.agg (.cons (.cst (.slice none 0 0)) (.cons (.cst (.slice none 0 0)) .nil))⟩:=Zcb (by kernel_rfl) (by kernel_rfl) rfl rfl
theorem tok36 : TOK Tryz.prog 36 ⟨.str [(0,1,false),(1,1,false)],2,48,.agg (.cons (.cst (.slice none 0 0)) (.cons (.cst (.slice none 0 0)) .nil))⟩:=Zcb (by kernel_rfl) (by kernel_rfl) rfl rfl
theorem tok38 : TOK Tryz.prog 38 ⟨.leaf,1,8,.cst .nilFunc⟩:=Zah (d:=(.func #[25,29] #[36,30] false)) (by kernel_rfl) (by kernel_rfl) rfl rfl rfl
theorem tok39 : TOK Tryz.prog 39 ⟨.leaf,1,8,.cst .nilFunc⟩:=Zah (d:=(.func #[] #[25] false)) (by kernel_rfl) (by kernel_rfl) rfl rfl rfl
theorem tok41 : TOK Tryz.prog 41 ⟨.leaf,1,8,.cst .nilFunc⟩:=Zah (d:=(.func #[25,29,36] #[4,30] false)) (by kernel_rfl) (by kernel_rfl) rfl rfl rfl
theorem tok42 : TOK Tryz.prog 42 ⟨.leaf,1,8,.cst .nilFunc⟩:=Zah (d:=(.func #[25,43] #[29,30] false)) (by kernel_rfl) (by kernel_rfl) rfl rfl rfl
theorem tok43 : TOK Tryz.prog 43 ⟨.slc 4,1,24,.cst (.slice none 0 0)⟩:=Zg7 (by kernel_rfl) (by kernel_rfl) rfl rfl
theorem tok44 : TOK Tryz.prog 44 ⟨.leaf,1,8,.cst .nilFunc⟩:=Zah (d:=(.func #[3] #[43] false)) (by kernel_rfl) (by kernel_rfl) rfl rfl rfl
theorem tok46 : TOK Tryz.prog 46 ⟨.leaf,1,8,.cst .nilFunc⟩:=Zah (d:=(.func #[25] #[25,30] false)) (by kernel_rfl) (by kernel_rfl) rfl rfl rfl
theorem tok48 : TOK Tryz.prog 48 ⟨.leaf,1,8,.cst .nilFunc⟩:=Zah (d:=(.func #[25] #[43,22,4] false)) (by kernel_rfl) (by kernel_rfl) rfl rfl rfl
theorem tok50 : TOK Tryz.prog 50 ⟨.leaf,1,8,.cst .nilFunc⟩:=Zah (d:=(.func #[25,3] #[43,22] false)) (by kernel_rfl) (by kernel_rfl) rfl rfl rfl
theorem tok51 : TOK Tryz.prog 51 ⟨.leaf,1,8,.cst .nilFunc⟩:=Zah (d:=(.func #[52,52] #[4] false)) (by kernel_rfl) (by kernel_rfl) rfl rfl rfl
theorem tok52 : TOK Tryz.prog 52 ⟨.str [(0,1,false),(1,1,false)],2,48,.agg (.cons (.cst (.slice none 0 0)) (.cons (.cst (.slice none 0 0)) .nil))⟩:=Zcb (by kernel_rfl) (by kernel_rfl) rfl rfl
theorem tok53 : TOK Tryz.prog 53 ⟨.leaf,1,8,.cst .nilFunc⟩:=Zah (d:=(.func #[36] #[52] false)) (by kernel_rfl) (by kernel_rfl) rfl rfl rfl
theorem tok54 : TOK Tryz.prog 54 ⟨.str [(0,3,true),(3,2,true)],5,120,.agg (.cons (.cst (.slice none 0 0)) (.cons (.cst (.slice none 0 0)) (.cons (.cst (.slice none 0 0)) (.cons (.cst (.slice none 0 0)) (.cons (.cst (.slice none 0 0)) .nil)))))⟩:=Zcb (by kernel_rfl) (by kernel_rfl) rfl rfl
theorem tok55 : TOK Tryz.prog 55 ⟨.str [(0,3,true),(3,2,true)],5,120,.agg (.cons (.cst (.slice none 0 0)) (.cons (.cst (.slice none 0 0)) (.cons (.cst (.slice none 0 0)) (.cons (.cst (.slice none 0 0)) (.cons (.cst (.slice none 0 0)) .nil)))))⟩:=Zcb (by kernel_rfl) (by kernel_rfl) rfl rfl
theorem tok57 : TOK Tryz.prog 57 ⟨.leaf,1,8,.cst .nilFunc⟩:=Zah (d:=(.func #[25,29] #[55,30] false)) (by kernel_rfl) (by kernel_rfl) rfl rfl rfl
theorem tok58 : TOK Tryz.prog 58 ⟨.str [(0,2,true)],2,48,.agg (.cons (.cst (.slice none 0 0)) (.cons (.cst (.slice none 0 0)) .nil))⟩:=Zcb (by kernel_rfl) (by kernel_rfl) rfl rfl
theorem tok59 : TOK Tryz.prog 59 ⟨.str [(0,2,true)],2,48,.agg (.cons (.cst (.slice none 0 0)) (.cons (.cst (.slice none 0 0)) .nil))⟩:=Zcb (by kernel_rfl) (by kernel_rfl) rfl rfl
theorem tok63 : TOK Tryz.prog 63 ⟨.leaf,1,8,.cst .nilFunc⟩:=Zah (d:=(.func #[] #[62] false)) (by kernel_rfl) (by kernel_rfl) rfl rfl rfl
theorem tok64 : TOK Tryz.prog 64 ⟨.leaf,1,8,.cst (.pointer none)⟩:=Zah (d:=(.pointer 59)) (by kernel_rfl) (by kernel_rfl) rfl rfl rfl
theorem tok65 : TOK Tryz.prog 65 ⟨.leaf,1,8,.cst .nilFunc⟩:=Zah (d:=(.func #[25,36] #[4] false)) (by kernel_rfl) (by kernel_rfl) rfl rfl rfl
theorem tok66 : TOK Tryz.prog 66 ⟨.leaf,1,8,.cst .nilFunc⟩:=Zah (d:=(.func #[23] #[22] true)) (by kernel_rfl) (by kernel_rfl) rfl rfl rfl
theorem tok67 : TOK Tryz.prog 67 ⟨.leaf,1,8,.cst .nilFunc⟩:=Zah (d:=(.func #[25,36] #[3] false)) (by kernel_rfl) (by kernel_rfl) rfl rfl rfl
theorem tok68 : TOK Tryz.prog 68 ⟨.leaf,1,8,.cst .nilFunc⟩:=Zah (d:=(.func #[22,3] #[4] false)) (by kernel_rfl) (by kernel_rfl) rfl rfl rfl
theorem tok69 : TOK Tryz.prog 69 ⟨.leaf,1,8,.cst .nilFunc⟩:=Zah (d:=(.func #[3,3] #[22] false)) (by kernel_rfl) (by kernel_rfl) rfl rfl rfl
theorem tok70 : TOK Tryz.prog 70 ⟨.leaf,1,8,.cst (.pointer none)⟩:=Zah (d:=(.pointer 77)) (by kernel_rfl) (by kernel_rfl) rfl rfl rfl
theorem tok71 : TOK Tryz.prog 71 ⟨.leaf,1,8,.cst .nilFunc⟩:=Zah (d:=(.func #[25] #[70] false)) (by kernel_rfl) (by kernel_rfl) rfl rfl rfl
theorem tok75 : TOK Tryz.prog 75 ⟨.leaf,1,8,.cst .nilFunc⟩:=Zah (d:=(.func #[43] #[] false)) (by kernel_rfl) (by kernel_rfl) rfl rfl rfl
theorem tok76 : TOK Tryz.prog 76 ⟨.str [(0,3,true),(3,1,false),(4,1,false),(5,2,true)],7,152,.agg (.cons (.cst (.slice none 0 0)) (.cons (.cst (.slice none 0 0)) (.cons (.cst (.slice none 0 0)) (.cons (.cst (.slice none 0 0)) (.cons (.int .i64 0) (.cons (.cst (.slice none 0 0)) (.cons (.cst (.slice none 0 0)) .nil)))))))⟩:=Zcb (by kernel_rfl) (by kernel_rfl) rfl rfl
theorem tok77 : TOK Tryz.prog 77 ⟨.str [(0,3,true),(3,1,false),(4,1,false),(5,2,true)],7,152,.agg (.cons (.cst (.slice none 0 0)) (.cons (.cst (.slice none 0 0)) (.cons (.cst (.slice none 0 0)) (.cons (.cst (.slice none 0 0)) (.cons (.int .i64 0) (.cons (.cst (.slice none 0 0)) (.cons (.cst (.slice none 0 0)) .nil)))))))⟩:=Zcb (by kernel_rfl) (by kernel_rfl) rfl rfl
theorem tok78 : TOK Tryz.prog 78 ⟨.leaf,1,8,.cst .nilFunc⟩:=Zah (d:=(.func #[25] #[25] false)) (by kernel_rfl) (by kernel_rfl) rfl rfl rfl
theorem tok79 : TOK Tryz.prog 79 ⟨.str [(0,1,false),(1,1,false)],2,48,.agg (.cons (.cst (.slice none 0 0)) (.cons (.cst (.slice none 0 0)) .nil))⟩:=Zcb (by kernel_rfl) (by kernel_rfl) rfl rfl
theorem tok80 : TOK Tryz.prog 80 ⟨.str [(0,1,false),(1,1,false)],2,48,.agg (.cons (.cst (.slice none 0 0)) (.cons (.cst (.slice none 0 0)) .nil))⟩:=Zcb (by kernel_rfl) (by kernel_rfl) rfl rfl
theorem tok81 : TOK Tryz.prog 81 ⟨.leaf,1,8,.cst .nilFunc⟩:=Zah (d:=(.func #[25] #[80] false)) (by kernel_rfl) (by kernel_rfl) rfl rfl rfl
theorem tok82 : TOK Tryz.prog 82 ⟨.slc 86,1,24,.cst (.slice none 0 0)⟩:=Zg7 (by kernel_rfl) (by kernel_rfl) rfl rfl
theorem tok84 : TOK Tryz.prog 84 ⟨.leaf,1,8,.cst .nilFunc⟩:=Zah (d:=(.func #[25] #[82,4] false)) (by kernel_rfl) (by kernel_rfl) rfl rfl rfl
theorem tok85 : TOK Tryz.prog 85 ⟨.str [(0,1,false),(1,1,false)],2,32,.agg (.cons (.bool false) (.cons (.cst (.slice none 0 0)) .nil))⟩:=Zcb (by kernel_rfl) (by kernel_rfl) rfl rfl
theorem tok86 : TOK Tryz.prog 86 ⟨.str [(0,1,false),(1,1,false)],2,32,.agg (.cons (.bool false) (.cons (.cst (.slice none 0 0)) .nil))⟩:=Zcb (by kernel_rfl) (by kernel_rfl) rfl rfl
theorem tok88 : TOK Tryz.prog 88 ⟨.leaf,1,8,.cst .nilFunc⟩:=Zah (d:=(.func #[25,82,3] #[86,3] false)) (by kernel_rfl) (by kernel_rfl) rfl rfl rfl
theorem tok89 : TOK Tryz.prog 89 ⟨.str [(0,1,false),(1,1,false),(2,1,false)],3,32,.agg (.cons (.bool false) (.cons (.bool false) (.cons (.cst (.slice none 0 0)) .nil)))⟩:=Zcb (by kernel_rfl) (by kernel_rfl) rfl rfl
theorem tok90 : TOK Tryz.prog 90 ⟨.str [(0,1,false),(1,1,false),(2,1,false)],3,32,.agg (.cons (.bool false) (.cons (.bool false) (.cons (.cst (.slice none 0 0)) .nil)))⟩:=Zcb (by kernel_rfl) (by kernel_rfl) rfl rfl
theorem tok91 : TOK Tryz.prog 91 ⟨.leaf,1,8,.cst .nilFunc⟩:=Zah (d:=(.func #[25,3] #[43] false)) (by kernel_rfl) (by kernel_rfl) rfl rfl rfl
theorem tok92 : TOK Tryz.prog 92 ⟨.str [(0,3,true),(3,1,false),(4,3,true),(7,1,false),(8,1,false)],9,160,.agg (.cons (.cst (.slice none 0 0)) (.cons (.cst (.slice none 0 0)) (.cons (.cst (.slice none 0 0)) (.cons (.int .i64 0) (.cons (.bool false) (.cons (.bool false) (.cons (.cst (.slice none 0 0)) (.cons (.cst (.slice none 0 0)) (.cons (.cst (.slice none 0 0)) .nil)))))))))⟩:=Zcb (by kernel_rfl) (by kernel_rfl) rfl rfl
theorem tok93 : TOK Tryz.prog 93 ⟨.str [(0,3,true),(3,1,false),(4,3,true),(7,1,false),(8,1,false)],9,160,.agg (.cons (.cst (.slice none 0 0)) (.cons (.cst (.slice none 0 0)) (.cons (.cst (.slice none 0 0)) (.cons (.int .i64 0) (.cons (.bool false) (.cons (.bool false) (.cons (.cst (.slice none 0 0)) (.cons (.cst (.slice none 0 0)) (.cons (.cst (.slice none 0 0)) .nil)))))))))⟩:=Zcb (by kernel_rfl) (by kernel_rfl) rfl rfl
theorem tok94 : TOK Tryz.prog 94 ⟨.slc 90,1,24,.cst (.slice none 0 0)⟩:=Zg7 (by kernel_rfl) (by kernel_rfl) rfl rfl
theorem tok95 : TOK Tryz.prog 95 ⟨.leaf,1,8,.cst .nilFunc⟩:=Zah (d:=(.func #[] #[94] false)) (by kernel_rfl) (by kernel_rfl) rfl rfl rfl
theorem tok96 : TOK Tryz.prog 96 ⟨.leaf,1,8,.cst .nilFunc⟩:=Zah (d:=(.func #[94] #[4] false)) (by kernel_rfl) (by kernel_rfl) rfl rfl rfl
theorem tok97 : TOK Tryz.prog 97 ⟨.leaf,1,8,.cst .nilFunc⟩:=Zah (d:=(.func #[22,22] #[4] false)) (by kernel_rfl) (by kernel_rfl) rfl rfl rfl
theorem tok105 : TOK Tryz.prog 105 ⟨.leaf,1,8,.cst .nilFunc⟩:=Zah (d:=(.func #[] #[104] false)) (by kernel_rfl) (by kernel_rfl) rfl rfl rfl
theorem tok108 : TOK Tryz.prog 108 ⟨.leaf,1,8,.cst .nilFunc⟩:=Zah (d:=(.func #[104] #[4] false)) (by kernel_rfl) (by kernel_rfl) rfl rfl rfl
theorem tok110 : TOK Tryz.prog 110 ⟨.slc 63,1,24,.cst (.slice none 0 0)⟩:=Zg7 (by kernel_rfl) (by kernel_rfl) rfl rfl
theorem tok111 : TOK Tryz.prog 111 ⟨.leaf,1,8,.cst .nilFunc⟩:=Zah (d:=(.func #[22,112] #[4] false)) (by kernel_rfl) (by kernel_rfl) rfl rfl rfl
theorem tok112 : TOK Tryz.prog 112 ⟨.leaf,1,8,.cst .nilFunc⟩:=Zah (d:=(.func #[3] #[4] false)) (by kernel_rfl) (by kernel_rfl) rfl rfl rfl
theorem tok113 : TOK Tryz.prog 113 ⟨.leaf,1,8,.cst .nilFunc⟩:=Zah (d:=(.func #[22,3] #[3] false)) (by kernel_rfl) (by kernel_rfl) rfl rfl rfl
theorem tok115 : TOK Tryz.prog 115 ⟨.leaf,1,8,.cst .nilFunc⟩:=Zah (d:=(.func #[43] #[43,3,4] false)) (by kernel_rfl) (by kernel_rfl) rfl rfl rfl
theorem tok116 : TOK Tryz.prog 116 ⟨.map,1,8,.cst (.map none)⟩:=tok_map (by kernel_rfl) (by kernel_rfl) rfl rfl
theorem tok117 : TOK Tryz.prog 117 ⟨.leaf,1,8,.cst .nilFunc⟩:=Zah (d:=(.func #[3,43,43,118] #[43] false)) (by kernel_rfl) (by kernel_rfl) rfl rfl rfl
theorem tok118 : TOK Tryz.prog 118 ⟨.leaf,1,8,.cst .nilFunc⟩:=Zah (d:=(.func #[3,3] #[] false)) (by kernel_rfl) (by kernel_rfl) rfl rfl rfl
theorem tok119 : TOK Tryz.prog 119 ⟨.leaf,1,8,.cst .nilFunc⟩:=Zah (d:=(.func #[43,43] #[43] false)) (by kernel_rfl) (by kernel_rfl) rfl rfl rfl
theorem tok120 : TOK Tryz.prog 120 ⟨.leaf,1,8,.cst .nilFunc⟩:=Zah (d:=(.func #[112] #[] false)) (by kernel_rfl) (by kernel_rfl) rfl rfl rfl
theorem tok121 : TOK Tryz.prog 121 ⟨.leaf,1,8,.cst .nilFunc⟩:=Zah (d:=(.func #[112] #[] false)) (by kernel_rfl) (by kernel_rfl) rfl rfl rfl
theorem tok122 : TOK Tryz.prog 122 ⟨.leaf,1,8,.cst .nilFunc⟩:=Zah (d:=(.func #[43] #[121] false)) (by kernel_rfl) (by kernel_rfl) rfl rfl rfl
theorem tok123 : TOK Tryz.prog 123 ⟨.leaf,1,8,.cst .nilFunc⟩:=Zah (d:=(.func #[43,43,43,3,116] #[] false)) (by kernel_rfl) (by kernel_rfl) rfl rfl rfl
theorem tok124 : TOK Tryz.prog 124 ⟨.leaf,1,8,.cst .nilFunc⟩:=Zah (d:=(.func #[3,3,3] #[] false)) (by kernel_rfl) (by kernel_rfl) rfl rfl rfl
theorem tok125 : TOK Tryz.prog 125 ⟨.leaf,1,8,.cst .nilFunc⟩:=Zah (d:=(.func #[22] #[22] false)) (by kernel_rfl) (by kernel_rfl) rfl rfl rfl
theorem tok126 : TOK Tryz.prog 126 ⟨.leaf,1,8,.cst .nilFunc⟩:=Zah (d:=(.func #[127] #[121] false)) (by kernel_rfl) (by kernel_rfl) rfl rfl rfl
theorem tok127 : TOK Tryz.prog 127 ⟨.leaf,1,8,.cst (.pointer none)⟩:=Zah (d:=(.pointer 22)) (by kernel_rfl) (by kernel_rfl) rfl rfl rfl
theorem tok128 : TOK Tryz.prog 128 ⟨.leaf,1,8,.cst .nilFunc⟩:=Zah (d:=(.func #[86,86] #[4] false)) (by kernel_rfl) (by kernel_rfl) rfl rfl rfl
theorem tok129 : TOK Tryz.prog 129 ⟨.leaf,1,8,.cst .nilFunc⟩:=Zah (d:=(.func #[86,3] #[86] false)) (by kernel_rfl) (by kernel_rfl) rfl rfl rfl
theorem tok130 : TOK Tryz.prog 130 ⟨.str [(0,3,true),(3,1,false),(4,1,false)],5,104,.agg (.cons (.cst (.slice none 0 0)) (.cons (.cst (.slice none 0 0)) (.cons (.cst (.slice none 0 0)) (.cons (.int .i64 0) (.cons (.cst (.slice none 0 0)) .nil)))))⟩:=Zcb (by kernel_rfl) (by kernel_rfl) rfl rfl
theorem tok131 : TOK Tryz.prog 131 ⟨.str [(0,3,true),(3,1,false),(4,1,false)],5,104,.agg (.cons (.cst (.slice none 0 0)) (.cons (.cst (.slice none 0 0)) (.cons (.cst (.slice none 0 0)) (.cons (.int .i64 0) (.cons (.cst (.slice none 0 0)) .nil)))))⟩:=Zcb (by kernel_rfl) (by kernel_rfl) rfl rfl
theorem tok133 : TOK Tryz.prog 133 ⟨.leaf,1,8,.cst .nilFunc⟩:=Zah (d:=(.func #[3,112] #[116] false)) (by kernel_rfl) (by kernel_rfl) rfl rfl rfl
theorem tok134 : TOK Tryz.prog 134 ⟨.leaf,1,8,.cst .nilFunc⟩:=Zah (d:=(.func #[94,3] #[90] false)) (by kernel_rfl) (by kernel_rfl) rfl rfl rfl
theorem tok135 : TOK Tryz.prog 135 ⟨.leaf,1,8,.cst .nilFunc⟩:=Zah (d:=(.func #[90,90,3] #[3] false)) (by kernel_rfl) (by kernel_rfl) rfl rfl rfl
theorem tok137 : TOK Tryz.prog 137 ⟨.str [(0,1,false)],1,8,.agg (.cons (.cst (.pointer none)) .nil)⟩:=Zcb (by kernel_rfl) (by kernel_rfl) rfl rfl
theorem tok138 : TOK Tryz.prog 138 ⟨.leaf,1,8,.cst (.pointer none)⟩:=Zah (d:=(.pointer 179)) (by kernel_rfl) (by kernel_rfl) rfl rfl rfl
theorem tok140 : TOK Tryz.prog 140 ⟨.leaf,1,8,.cst .nilFunc⟩:=Zah (d:=(.func #[] #[101] false)) (by kernel_rfl) (by kernel_rfl) rfl rfl rfl
theorem tok141 : TOK Tryz.prog 141 ⟨.leaf,1,8,.cst .nilFunc⟩:=Zah (d:=(.func #[101] #[] false)) (by kernel_rfl) (by kernel_rfl) rfl rfl rfl
theorem tok147 : TOK Tryz.prog 147 ⟨.slc 62,1,24,.cst (.slice none 0 0)⟩:=Zg7 (by kernel_rfl) (by kernel_rfl) rfl rfl
theorem tok148 : TOK Tryz.prog 148 ⟨.leaf,1,8,.cst .nilFunc⟩:=Zah (d:=(.func #[] #[147] false)) (by kernel_rfl) (by kernel_rfl) rfl rfl rfl
theorem tok149 : TOK Tryz.prog 149 ⟨.leaf,1,8,.cst .nilFunc⟩:=Zah (d:=(.func #[3,3] #[36] false)) (by kernel_rfl) (by kernel_rfl) rfl rfl rfl
theorem tok150 : TOK Tryz.prog 150 ⟨.leaf,1,8,.cst .nilFunc⟩:=Zah (d:=(.func #[3] #[22] false)) (by kernel_rfl) (by kernel_rfl) rfl rfl rfl
theorem tok151 : TOK Tryz.prog 151 ⟨.leaf,1,8,.cst .nilFunc⟩:=Zah (d:=(.func #[22,112] #[3] false)) (by kernel_rfl) (by kernel_rfl) rfl rfl rfl
theorem tok152 : TOK Tryz.prog 152 ⟨.leaf,1,8,.cst .nilFunc⟩:=Zah (d:=(.func #[3,43] #[3] false)) (by kernel_rfl) (by kernel_rfl) rfl rfl rfl
theorem tok153 : TOK Tryz.prog 153 ⟨.leaf,1,8,.cst .nilFunc⟩:=Zah (d:=(.func #[22,22,154] #[3] false)) (by kernel_rfl) (by kernel_rfl) rfl rfl rfl
theorem tok154 : TOK Tryz.prog 154 ⟨.leaf,1,8,.cst .nilFunc⟩:=Zah (d:=(.func #[3,3] #[3] false)) (by kernel_rfl) (by kernel_rfl) rfl rfl rfl
theorem tok155 : TOK Tryz.prog 155 ⟨.leaf,1,8,.cst .nilFunc⟩:=Zah (d:=(.func #[3] #[3] false)) (by kernel_rfl) (by kernel_rfl) rfl rfl rfl
theorem tok156 : TOK Tryz.prog 156 ⟨.leaf,1,8,.cst .nilFunc⟩:=Zah (d:=(.func #[3] #[90] false)) (by kernel_rfl) (by kernel_rfl) rfl rfl rfl
theorem tok157 : TOK Tryz.prog 157 ⟨.leaf,1,8,.cst .nilFunc⟩:=Zah (d:=(.func #[] #[3] false)) (by kernel_rfl) (by kernel_rfl) rfl rfl rfl
theorem tok158 : TOK Tryz.prog 158 ⟨.leaf,1,8,.cst .nilFunc⟩:=Zah (d:=(.func #[22] #[] false)) (by kernel_rfl) (by kernel_rfl) rfl rfl rfl
theorem tok174 : TOK Tryz.prog 174 ⟨.leaf,1,8,.cst .nilFunc⟩:=Zah (d:=(.func #[] #[22] false)) (by kernel_rfl) (by kernel_rfl) rfl rfl rfl
theorem tok177 : TOK Tryz.prog 177 ⟨.leaf,1,8,.cst .nilFunc⟩:=Zah (d:=(.func #[] #[182] false)) (by kernel_rfl) (by kernel_rfl) rfl rfl rfl
theorem tok181 : TOK Tryz.prog 181 ⟨.leaf,1,8,.cst .nilFunc⟩:=Zah (d:=(.func #[187] #[] false)) (by kernel_rfl) (by kernel_rfl) rfl rfl rfl
theorem tok182 : TOK Tryz.prog 182 ⟨.leaf,1,8,.cst .nilFunc⟩:=Zah (d:=(.func #[187] #[] false)) (by kernel_rfl) (by kernel_rfl) rfl rfl rfl
theorem tok187 : TOK Tryz.prog 187 ⟨.leaf,1,8,.cst .nilFunc⟩:=Zah (d:=(.func #[3,22] #[4] false)) (by kernel_rfl) (by kernel_rfl) rfl rfl rfl
theorem tok192 : TOK Tryz.prog 192 ⟨.leaf,1,8,.cst (.pointer none)⟩:=Zah (d:=(.pointer 62)) (by kernel_rfl) (by kernel_rfl) rfl rfl rfl
def tb : Nat→Option TI
 |2=>some ⟨.leaf,1,8,.int .i64 0⟩
 |3=>some ⟨.leaf,1,8,.int .i64 0⟩
 |4=>some ⟨.bool,1,1,.bool false⟩
 |22=>some ⟨.slc 3,1,24,.cst (.slice none 0 0)⟩
 |23=>some ⟨.slc 22,1,24,.cst (.slice none 0 0)⟩
 |24=>some ⟨.str [(0,1,false),(1,1,false),(2,1,false)],3,72,.agg (.cons (.cst (.slice none 0 0)) (.cons (.cst (.slice none 0 0)) (.cons (.cst (.slice none 0 0)) .nil)))⟩
 |25=>some ⟨.str [(0,1,false),(1,1,false),(2,1,false)],3,72,.agg (.cons (.cst (.slice none 0 0)) (.cons (.cst (.slice none 0 0)) (.cons (.cst (.slice none 0 0)) .nil)))⟩
 |26=>some ⟨.leaf,1,8,.cst .nilFunc⟩
 |27=>some ⟨.leaf,1,8,.cst .nilFunc⟩
 |28=>some ⟨.str [(0,1,false),(1,1,false)],2,48,.agg (.cons (.cst (.slice none 0 0)) (.cons (.cst (.slice none 0 0)) .nil))⟩
 |29=>some ⟨.str [(0,1,false),(1,1,false)],2,48,.agg (.cons (.cst (.slice none 0 0)) (.cons (.cst (.slice none 0 0)) .nil))⟩
 |30=>some ⟨.leaf,1,8,.int .i64 0⟩
 |32=>some ⟨.leaf,1,8,.cst .nilFunc⟩
 |33=>some ⟨.leaf,1,8,.cst .nilFunc⟩
 |34=>some ⟨.leaf,1,8,.cst .nilFunc⟩
 |35=>some ⟨.str [(0,1,false),(1,1,false)],2,48,.agg (.cons (.cst (.slice none 0 0)) (.cons (.cst (.slice none 0 0)) .nil))⟩
 |36=>some ⟨.str [(0,1,false),(1,1,false)],2,48,.agg (.cons (.cst (.slice none 0 0)) (.cons (.cst (.slice none 0 0)) .nil))⟩
 |38=>some ⟨.leaf,1,8,.cst .nilFunc⟩
 |39=>some ⟨.leaf,1,8,.cst .nilFunc⟩
 |41=>some ⟨.leaf,1,8,.cst .nilFunc⟩
 |42=>some ⟨.leaf,1,8,.cst .nilFunc⟩
 |43=>some ⟨.slc 4,1,24,.cst (.slice none 0 0)⟩
 |44=>some ⟨.leaf,1,8,.cst .nilFunc⟩
 |46=>some ⟨.leaf,1,8,.cst .nilFunc⟩
 |48=>some ⟨.leaf,1,8,.cst .nilFunc⟩
 |50=>some ⟨.leaf,1,8,.cst .nilFunc⟩
 |51=>some ⟨.leaf,1,8,.cst .nilFunc⟩
 |52=>some ⟨.str [(0,1,false),(1,1,false)],2,48,.agg (.cons (.cst (.slice none 0 0)) (.cons (.cst (.slice none 0 0)) .nil))⟩
 |53=>some ⟨.leaf,1,8,.cst .nilFunc⟩
 |54=>some ⟨.str [(0,3,true),(3,2,true)],5,120,.agg (.cons (.cst (.slice none 0 0)) (.cons (.cst (.slice none 0 0)) (.cons (.cst (.slice none 0 0)) (.cons (.cst (.slice none 0 0)) (.cons (.cst (.slice none 0 0)) .nil)))))⟩
 |55=>some ⟨.str [(0,3,true),(3,2,true)],5,120,.agg (.cons (.cst (.slice none 0 0)) (.cons (.cst (.slice none 0 0)) (.cons (.cst (.slice none 0 0)) (.cons (.cst (.slice none 0 0)) (.cons (.cst (.slice none 0 0)) .nil)))))⟩
 |57=>some ⟨.leaf,1,8,.cst .nilFunc⟩
 |58=>some ⟨.str [(0,2,true)],2,48,.agg (.cons (.cst (.slice none 0 0)) (.cons (.cst (.slice none 0 0)) .nil))⟩
 |59=>some ⟨.str [(0,2,true)],2,48,.agg (.cons (.cst (.slice none 0 0)) (.cons (.cst (.slice none 0 0)) .nil))⟩
 |63=>some ⟨.leaf,1,8,.cst .nilFunc⟩
 |64=>some ⟨.leaf,1,8,.cst (.pointer none)⟩
 |65=>some ⟨.leaf,1,8,.cst .nilFunc⟩
 |66=>some ⟨.leaf,1,8,.cst .nilFunc⟩
 |67=>some ⟨.leaf,1,8,.cst .nilFunc⟩
 |68=>some ⟨.leaf,1,8,.cst .nilFunc⟩
 |69=>some ⟨.leaf,1,8,.cst .nilFunc⟩
 |70=>some ⟨.leaf,1,8,.cst (.pointer none)⟩
 |71=>some ⟨.leaf,1,8,.cst .nilFunc⟩
 |75=>some ⟨.leaf,1,8,.cst .nilFunc⟩
 |76=>some ⟨.str [(0,3,true),(3,1,false),(4,1,false),(5,2,true)],7,152,.agg (.cons (.cst (.slice none 0 0)) (.cons (.cst (.slice none 0 0)) (.cons (.cst (.slice none 0 0)) (.cons (.cst (.slice none 0 0)) (.cons (.int .i64 0) (.cons (.cst (.slice none 0 0)) (.cons (.cst (.slice none 0 0)) .nil)))))))⟩
 |77=>some ⟨.str [(0,3,true),(3,1,false),(4,1,false),(5,2,true)],7,152,.agg (.cons (.cst (.slice none 0 0)) (.cons (.cst (.slice none 0 0)) (.cons (.cst (.slice none 0 0)) (.cons (.cst (.slice none 0 0)) (.cons (.int .i64 0) (.cons (.cst (.slice none 0 0)) (.cons (.cst (.slice none 0 0)) .nil)))))))⟩
 |78=>some ⟨.leaf,1,8,.cst .nilFunc⟩
 |79=>some ⟨.str [(0,1,false),(1,1,false)],2,48,.agg (.cons (.cst (.slice none 0 0)) (.cons (.cst (.slice none 0 0)) .nil))⟩
 |80=>some ⟨.str [(0,1,false),(1,1,false)],2,48,.agg (.cons (.cst (.slice none 0 0)) (.cons (.cst (.slice none 0 0)) .nil))⟩
 |81=>some ⟨.leaf,1,8,.cst .nilFunc⟩
 |82=>some ⟨.slc 86,1,24,.cst (.slice none 0 0)⟩
 |84=>some ⟨.leaf,1,8,.cst .nilFunc⟩
 |85=>some ⟨.str [(0,1,false),(1,1,false)],2,32,.agg (.cons (.bool false) (.cons (.cst (.slice none 0 0)) .nil))⟩
 |86=>some ⟨.str [(0,1,false),(1,1,false)],2,32,.agg (.cons (.bool false) (.cons (.cst (.slice none 0 0)) .nil))⟩
 |88=>some ⟨.leaf,1,8,.cst .nilFunc⟩
 |89=>some ⟨.str [(0,1,false),(1,1,false),(2,1,false)],3,32,.agg (.cons (.bool false) (.cons (.bool false) (.cons (.cst (.slice none 0 0)) .nil)))⟩
 |90=>some ⟨.str [(0,1,false),(1,1,false),(2,1,false)],3,32,.agg (.cons (.bool false) (.cons (.bool false) (.cons (.cst (.slice none 0 0)) .nil)))⟩
 |91=>some ⟨.leaf,1,8,.cst .nilFunc⟩
 |92=>some ⟨.str [(0,3,true),(3,1,false),(4,3,true),(7,1,false),(8,1,false)],9,160,.agg (.cons (.cst (.slice none 0 0)) (.cons (.cst (.slice none 0 0)) (.cons (.cst (.slice none 0 0)) (.cons (.int .i64 0) (.cons (.bool false) (.cons (.bool false) (.cons (.cst (.slice none 0 0)) (.cons (.cst (.slice none 0 0)) (.cons (.cst (.slice none 0 0)) .nil)))))))))⟩
 |93=>some ⟨.str [(0,3,true),(3,1,false),(4,3,true),(7,1,false),(8,1,false)],9,160,.agg (.cons (.cst (.slice none 0 0)) (.cons (.cst (.slice none 0 0)) (.cons (.cst (.slice none 0 0)) (.cons (.int .i64 0) (.cons (.bool false) (.cons (.bool false) (.cons (.cst (.slice none 0 0)) (.cons (.cst (.slice none 0 0)) (.cons (.cst (.slice none 0 0)) .nil)))))))))⟩
 |94=>some ⟨.slc 90,1,24,.cst (.slice none 0 0)⟩
 |95=>some ⟨.leaf,1,8,.cst .nilFunc⟩
 |96=>some ⟨.leaf,1,8,.cst .nilFunc⟩
 |97=>some ⟨.leaf,1,8,.cst .nilFunc⟩
 |105=>some ⟨.leaf,1,8,.cst .nilFunc⟩
 |108=>some ⟨.leaf,1,8,.cst .nilFunc⟩
 |110=>some ⟨.slc 63,1,24,.cst (.slice none 0 0)⟩
 |111=>some ⟨.leaf,1,8,.cst .nilFunc⟩
 |112=>some ⟨.leaf,1,8,.cst .nilFunc⟩
 |113=>some ⟨.leaf,1,8,.cst .nilFunc⟩
 |115=>some ⟨.leaf,1,8,.cst .nilFunc⟩
 |116=>some ⟨.map,1,8,.cst (.map none)⟩
 |117=>some ⟨.leaf,1,8,.cst .nilFunc⟩
 |118=>some ⟨.leaf,1,8,.cst .nilFunc⟩
 |119=>some ⟨.leaf,1,8,.cst .nilFunc⟩
 |120=>some ⟨.leaf,1,8,.cst .nilFunc⟩
 |121=>some ⟨.leaf,1,8,.cst .nilFunc⟩
 |122=>some ⟨.leaf,1,8,.cst .nilFunc⟩
 |123=>some ⟨.leaf,1,8,.cst .nilFunc⟩
 |124=>some ⟨.leaf,1,8,.cst .nilFunc⟩
 |125=>some ⟨.leaf,1,8,.cst .nilFunc⟩
 |126=>some ⟨.leaf,1,8,.cst .nilFunc⟩
 |127=>some ⟨.leaf,1,8,.cst (.pointer none)⟩
 |128=>some ⟨.leaf,1,8,.cst .nilFunc⟩
 |129=>some ⟨.leaf,1,8,.cst .nilFunc⟩
 |130=>some ⟨.str [(0,3,true),(3,1,false),(4,1,false)],5,104,.agg (.cons (.cst (.slice none 0 0)) (.cons (.cst (.slice none 0 0)) (.cons (.cst (.slice none 0 0)) (.cons (.int .i64 0) (.cons (.cst (.slice none 0 0)) .nil)))))⟩
 |131=>some ⟨.str [(0,3,true),(3,1,false),(4,1,false)],5,104,.agg (.cons (.cst (.slice none 0 0)) (.cons (.cst (.slice none 0 0)) (.cons (.cst (.slice none 0 0)) (.cons (.int .i64 0) (.cons (.cst (.slice none 0 0)) .nil)))))⟩
 |133=>some ⟨.leaf,1,8,.cst .nilFunc⟩
 |134=>some ⟨.leaf,1,8,.cst .nilFunc⟩
 |135=>some ⟨.leaf,1,8,.cst .nilFunc⟩
 |137=>some ⟨.str [(0,1,false)],1,8,.agg (.cons (.cst (.pointer none)) .nil)⟩
 |138=>some ⟨.leaf,1,8,.cst (.pointer none)⟩
 |140=>some ⟨.leaf,1,8,.cst .nilFunc⟩
 |141=>some ⟨.leaf,1,8,.cst .nilFunc⟩
 |147=>some ⟨.slc 62,1,24,.cst (.slice none 0 0)⟩
 |148=>some ⟨.leaf,1,8,.cst .nilFunc⟩
 |149=>some ⟨.leaf,1,8,.cst .nilFunc⟩
 |150=>some ⟨.leaf,1,8,.cst .nilFunc⟩
 |151=>some ⟨.leaf,1,8,.cst .nilFunc⟩
 |152=>some ⟨.leaf,1,8,.cst .nilFunc⟩
 |153=>some ⟨.leaf,1,8,.cst .nilFunc⟩
 |154=>some ⟨.leaf,1,8,.cst .nilFunc⟩
 |155=>some ⟨.leaf,1,8,.cst .nilFunc⟩
 |156=>some ⟨.leaf,1,8,.cst .nilFunc⟩
 |157=>some ⟨.leaf,1,8,.cst .nilFunc⟩
 |158=>some ⟨.leaf,1,8,.cst .nilFunc⟩
 |174=>some ⟨.leaf,1,8,.cst .nilFunc⟩
 |177=>some ⟨.leaf,1,8,.cst .nilFunc⟩
 |181=>some ⟨.leaf,1,8,.cst .nilFunc⟩
 |182=>some ⟨.leaf,1,8,.cst .nilFunc⟩
 |187=>some ⟨.leaf,1,8,.cst .nilFunc⟩
 |192=>some ⟨.leaf,1,8,.cst (.pointer none)⟩
 |_=>none
theorem htb : Zdf Tryz.prog tb:=by
 intro t i h
 unfold tb at h
 split at h
 ·cases h;exact tok2
 ·cases h;exact tok3
 ·cases h;exact tok4
 ·cases h;exact tok22
 ·cases h;exact tok23
 ·cases h;exact tok24
 ·cases h;exact tok25
 ·cases h;exact tok26
 ·cases h;exact tok27
 ·cases h;exact tok28
 ·cases h;exact tok29
 ·cases h;exact tok30
 ·cases h;exact tok32
 ·cases h;exact tok33
 ·cases h;exact tok34
 ·cases h;exact tok35
 ·cases h;exact tok36
 ·cases h;exact tok38
 ·cases h;exact tok39
 ·cases h;exact tok41
 ·cases h;exact tok42
 ·cases h;exact tok43
 ·cases h;exact tok44
 ·cases h;exact tok46
 ·cases h;exact tok48
 ·cases h;exact tok50
 ·cases h;exact tok51
 ·cases h;exact tok52
 ·cases h;exact tok53
 ·cases h;exact tok54
 ·cases h;exact tok55
 ·cases h;exact tok57
 ·cases h;exact tok58
 ·cases h;exact tok59
 ·cases h;exact tok63
 ·cases h;exact tok64
 ·cases h;exact tok65
 ·cases h;exact tok66
 ·cases h;exact tok67
 ·cases h;exact tok68
 ·cases h;exact tok69
 ·cases h;exact tok70
 ·cases h;exact tok71
 ·cases h;exact tok75
 ·cases h;exact tok76
 ·cases h;exact tok77
 ·cases h;exact tok78
 ·cases h;exact tok79
 ·cases h;exact tok80
 ·cases h;exact tok81
 ·cases h;exact tok82
 ·cases h;exact tok84
 ·cases h;exact tok85
 ·cases h;exact tok86
 ·cases h;exact tok88
 ·cases h;exact tok89
 ·cases h;exact tok90
 ·cases h;exact tok91
 ·cases h;exact tok92
 ·cases h;exact tok93
 ·cases h;exact tok94
 ·cases h;exact tok95
 ·cases h;exact tok96
 ·cases h;exact tok97
 ·cases h;exact tok105
 ·cases h;exact tok108
 ·cases h;exact tok110
 ·cases h;exact tok111
 ·cases h;exact tok112
 ·cases h;exact tok113
 ·cases h;exact tok115
 ·cases h;exact tok116
 ·cases h;exact tok117
 ·cases h;exact tok118
 ·cases h;exact tok119
 ·cases h;exact tok120
 ·cases h;exact tok121
 ·cases h;exact tok122
 ·cases h;exact tok123
 ·cases h;exact tok124
 ·cases h;exact tok125
 ·cases h;exact tok126
 ·cases h;exact tok127
 ·cases h;exact tok128
 ·cases h;exact tok129
 ·cases h;exact tok130
 ·cases h;exact tok131
 ·cases h;exact tok133
 ·cases h;exact tok134
 ·cases h;exact tok135
 ·cases h;exact tok137
 ·cases h;exact tok138
 ·cases h;exact tok140
 ·cases h;exact tok141
 ·cases h;exact tok147
 ·cases h;exact tok148
 ·cases h;exact tok149
 ·cases h;exact tok150
 ·cases h;exact tok151
 ·cases h;exact tok152
 ·cases h;exact tok153
 ·cases h;exact tok154
 ·cases h;exact tok155
 ·cases h;exact tok156
 ·cases h;exact tok157
 ·cases h;exact tok158
 ·cases h;exact tok174
 ·cases h;exact tok177
 ·cases h;exact tok181
 ·cases h;exact tok182
 ·cases h;exact tok187
 ·cases h;exact tok192
 ·cases h
theorem hmz : ∀ t i,tb t=some i→men noK i.zero=true:=by
 intro t i h
 unfold tb at h
 split at h<;>first|(cases h;done)|(cases h;rfl)
theorem hmo : Tryz.prog.follows .mixedOrders=true:=by kernel_rfl
universe u v
theorem z0 {α:Type u}:(none:Option α).isNone=true:=rfl
theorem z1 {α:Type u} {l:List α} {i:Nat} {a:α}:(l.set i a).length=l.length:=List.length_set
theorem z2 {α:Type u}:([]:List α).length=0:=rfl
theorem z3 (n:Nat):n - 0=n:=rfl
theorem z4 (n:Nat):n+0=n:=rfl
theorem z5 (h:Decidable True):@decide True h=true:=decide_true h
theorem z6 (h:Decidable False):@decide False h=false:=decide_false h
theorem z7 : (!false)=true:=Bool.not_false
theorem z8 : (!true)=false:=Bool.not_true
theorem z9 (b:Bool):(b && true)=b:=Bool.and_true b
theorem z10 (b:Bool):(true && b)=b:=Bool.true_and b
theorem z11 (b:Bool):(b && false)=false:=Bool.and_false b
theorem z12 (b:Bool):(false && b)=false:=Bool.false_and b
theorem z13 (b:Bool):(b && b)=b:=Bool.and_self b
theorem z14 (b:Bool):(b || true)=true:=Bool.or_true b
theorem z15 (b:Bool):(true || b)=true:=Bool.true_or b
theorem z16 (b:Bool):(b || false)=b:=Bool.or_false b
theorem z17 (b:Bool):(false || b)=b:=Bool.false_or b
theorem z18 (b:Bool):(b || b)=b:=Bool.or_self b
theorem z19 {α:Type u} (a b:α):(bif true then a else b)=a:=rfl
theorem z20 {α:Type u} (a b:α):(bif false then a else b)=b:=rfl
theorem z21 {α:Type u} {l:List α}:l.toArray.toList=l:=rfl
theorem z22 {α:Type u} {β:Type v} {f:α→β} {a:α} {l:List α}:List.map f (a :: l)=f a :: List.map f l:=List.map_cons
theorem z23 {α:Type u} {β:Type v} {f:α→β}:List.map f []=[]:=List.map_nil
theorem z24 {α:Type u} {a:α} {l:List α}:(a :: l)[0]? = some a:=rfl
theorem z25 {α:Type u} {a:α} {i:Nat} {l:List α}:(a :: l)[i+1]? = l[i]?:=rfl
theorem z26 {α:Type u} {β:Type v} (a:α) (f:α→β):Option.map f (some a)=some (f a):=rfl
theorem z27 {α:Type u} {β:Type v} (f:α→β):Option.map f none=none:=rfl
theorem z28 {α:Type u} {i:Nat}:([]:List α).zipIdx i=[]:=rfl
theorem z29 {α:Type u} {a:α} {l:List α} {i:Nat}:(a :: l).zipIdx i=(a,i) :: l.zipIdx (i+1):=rfl
theorem z30 {α:Type u} {f:α→Bool}:([]:List α).all f=true:=rfl
theorem z31 {α:Type u} {a:α} {l:List α} {f:α→Bool}:(a :: l).all f=(f a && l.all f):=rfl
theorem z32 {α:Type u}:([]:List α).isEmpty=true:=rfl
theorem z33 {α:Type u} {a:α} {l:List α}:(a :: l).isEmpty=false:=rfl
theorem z34 {α:Type u} {a:α} {l m:List α}:a :: l++m=a :: (l++m):=rfl
theorem z35 {α:Type u} (l:List α):[]++l=l:=rfl
theorem z36 (p:Prop):(True∧p)=p:=true_and p
theorem z37 (p:Prop):(p∧True)=p:=and_true p
theorem z38 (α:Sort u):(α→True)=True:=implies_true α
theorem z39 : (false=true)=False:=Bool.false_eq_true
theorem z40 : (true=false)=False:=Bool.true_eq_false
theorem z41 {α:Type u} {a:α} {l:List α}:(a :: l).length=l.length+1:=rfl
theorem z42 {α:Type u} {x y:Array α}:(x++y).toList=x.toList++y.toList:=Array.toList_append
theorem z43 (b:Bool):((!b)=true)=(b=false):=Bool.not_eq_true' b
theorem z44 (b:Bool):((!b)=false)=(b=true):=Bool.not_eq_false' b
theorem z45 (c f:Bool):(bif c then true else f)=(c || f):=Bool.cond_true_left c f
theorem z46 (c t:Bool):(bif c then t else false)=(c && t):=Bool.cond_false_right c t
theorem z47 (c f:Bool):(bif c then false else f)=(!c && f):=Bool.cond_false_left c f
theorem z48 (c t:Bool):(bif c then t else true)=(!c || t):=Bool.cond_true_right c t
theorem z49 (p:Prop):(p∧p)=p:=and_self p
theorem z50 (b:Bool):(!!b)=b:=Bool.not_not b
theorem z51 : (¬True)=False:=not_true_eq_false
theorem z52 : (¬False)=True:=not_false_eq_true
theorem z53 (n:Nat):(n:Int).toNat=n:=rfl
theorem z54 : Int.toNat 0=0:=rfl
theorem z55 : Int.toNat 1=1:=rfl
theorem z56 {α:Type u} {l:List α}:l.take l.length=l:=List.take_length
theorem z57 {α:Type u} {l:List α}:l.drop 0=l:=List.drop_zero
open Go
theorem zE0 : type_of% (And.intro @evOut.eq_1<|And.intro @evOut.eq_2<|And.intro @evStep.eq_1<|And.intro @evCap.eq_1<|And.intro @evCap.eq_2<|And.intro @evMap.eq_1<|And.intro @evMap.eq_2<|And.intro @evMap.eq_3<|And.intro @evMap.eq_4<|And.intro @isIntS.eq_1<|And.intro @gua.eq_1<|And.intro @eq_self.{1}<|And.intro @evo.eq_1<|And.intro @ev1.eq_1<|And.intro @ev1.eq_2<|And.intro @ev1.eq_3<|And.intro @ev1.eq_4<|And.intro @ev1.eq_5<|And.intro @ev1.eq_6<|And.intro @ev1.eq_7<|And.intro @ev1.eq_8<|And.intro @ev1.eq_9<|And.intro @ev1.eq_10<|And.intro @evx.eq_1<|And.intro @evx.eq_2<|And.intro @evx.eq_3<|And.intro @evx.eq_4<|And.intro @evx.eq_5<|And.intro @evx.eq_6<|And.intro @evx.eq_7<|And.intro @evx.eq_8<|And.intro @evx.eq_9<|And.intro @evp.eq_1<|And.intro @evp.eq_2<|And.intro @evp.eq_3<|And.intro @evp.eq_4<|And.intro @evp.eq_5<|And.intro @evp.eq_6<|And.intro @evp.eq_7<|And.intro @evp.eq_8<|And.intro @evp.eq_9<|And.intro @evp.eq_10<|And.intro @evp.eq_11<|And.intro @evp.eq_12<|And.intro @evp.eq_13<|And.intro @evp.eq_14<|And.intro @evp.eq_15<|And.intro @evp.eq_16<|And.intro @ofP.eq_1<|And.intro @ofP.eq_2<|And.intro @guardOf.eq_1<|And.intro @opv.eq_1<|And.intro @opv.eq_2<|And.intro @opv.eq_3<|And.intro @opv.eq_4<|And.intro @opv.eq_5<|And.intro @opv.eq_6<|And.intro @Ze7<|And.intro @lke_nil<|And.intro @Zeu<|And.intro @Zai<|And.intro @isC.eq_1<|And.intro @isC.eq_2<|And.intro @isC.eq_3<|And.intro @isC.eq_4<|And.intro @isC.eq_5<|And.intro @isC.eq_6<|And.intro @isC.eq_7<|And.intro @isC.eq_8<|And.intro @isC.eq_9<|And.intro @isC.eq_10<|@isC.eq_11):=And.intro @evOut.eq_1<|And.intro @evOut.eq_2<|And.intro @evStep.eq_1<|And.intro @evCap.eq_1<|And.intro @evCap.eq_2<|And.intro @evMap.eq_1<|And.intro @evMap.eq_2<|And.intro @evMap.eq_3<|And.intro @evMap.eq_4<|And.intro @isIntS.eq_1<|And.intro @gua.eq_1<|And.intro @eq_self.{1}<|And.intro @evo.eq_1<|And.intro @ev1.eq_1<|And.intro @ev1.eq_2<|And.intro @ev1.eq_3<|And.intro @ev1.eq_4<|And.intro @ev1.eq_5<|And.intro @ev1.eq_6<|And.intro @ev1.eq_7<|And.intro @ev1.eq_8<|And.intro @ev1.eq_9<|And.intro @ev1.eq_10<|And.intro @evx.eq_1<|And.intro @evx.eq_2<|And.intro @evx.eq_3<|And.intro @evx.eq_4<|And.intro @evx.eq_5<|And.intro @evx.eq_6<|And.intro @evx.eq_7<|And.intro @evx.eq_8<|And.intro @evx.eq_9<|And.intro @evp.eq_1<|And.intro @evp.eq_2<|And.intro @evp.eq_3<|And.intro @evp.eq_4<|And.intro @evp.eq_5<|And.intro @evp.eq_6<|And.intro @evp.eq_7<|And.intro @evp.eq_8<|And.intro @evp.eq_9<|And.intro @evp.eq_10<|And.intro @evp.eq_11<|And.intro @evp.eq_12<|And.intro @evp.eq_13<|And.intro @evp.eq_14<|And.intro @evp.eq_15<|And.intro @evp.eq_16<|And.intro @ofP.eq_1<|And.intro @ofP.eq_2<|And.intro @guardOf.eq_1<|And.intro @opv.eq_1<|And.intro @opv.eq_2<|And.intro @opv.eq_3<|And.intro @opv.eq_4<|And.intro @opv.eq_5<|And.intro @opv.eq_6<|And.intro @Ze7<|And.intro @lke_nil<|And.intro @Zeu<|And.intro @Zai<|And.intro @isC.eq_1<|And.intro @isC.eq_2<|And.intro @isC.eq_3<|And.intro @isC.eq_4<|And.intro @isC.eq_5<|And.intro @isC.eq_6<|And.intro @isC.eq_7<|And.intro @isC.eq_8<|And.intro @isC.eq_9<|And.intro @isC.eq_10<|@isC.eq_11
theorem zE1 : type_of% (And.intro @isC.eq_12<|And.intro @isC.eq_13<|And.intro @isC.eq_14<|And.intro @isC.eq_15<|And.intro @isC.eq_16<|And.intro @isCC.eq_1<|And.intro @isCC.eq_2<|And.intro @isCL.eq_1<|And.intro @isCL.eq_2<|And.intro @isCL.eq_3<|And.intro @men.eq_1<|And.intro @men.eq_2<|And.intro @men.eq_3<|And.intro @men.eq_4<|And.intro @men.eq_5<|And.intro @men.eq_6<|And.intro @men.eq_7<|And.intro @men.eq_8<|And.intro @men.eq_9<|And.intro @putE.eq_1<|And.intro @putE.eq_2<|And.intro @setW.eq_1<|And.intro @setW.eq_2<|And.intro @setW.eq_3<|And.intro @set1.eq_1<|And.intro @set1.eq_2<|And.intro @del.eq_1<|And.intro @del.eq_2<|And.intro @evLoad.eq_1<|And.intro @evLoad.eq_2<|And.intro @evLoad.eq_3<|And.intro @evLoad.eq_4<|And.intro @evField.eq_1<|And.intro @evIndex.eq_1<|And.intro @evIndex.eq_2<|And.intro @evIndex.eq_3<|And.intro @evIndex.eq_4<|And.intro @evIndex.eq_5<|And.intro @evIndex.eq_6<|And.intro @evIndex.eq_7<|And.intro @evIndex.eq_8<|And.intro @evIndex.eq_9<|And.intro @evBin.eq_1<|And.intro @evBin.eq_2<|And.intro @evBin.eq_3<|And.intro @evBin.eq_4<|And.intro @evBin.eq_5<|And.intro @evBin.eq_6<|And.intro @evBin.eq_7<|And.intro @evBin.eq_8<|And.intro @evBin.eq_9<|And.intro @evBin.eq_10<|And.intro @evBin.eq_11<|And.intro @lenOf.eq_1<|And.intro @lenOf.eq_2<|And.intro @lenOf.eq_3<|And.intro @lenOf.eq_4<|And.intro @lenOf.eq_5<|And.intro @lenOf.eq_6<|And.intro @lenOf.eq_7<|And.intro @evSlice.eq_1<|And.intro @evSlice.eq_2<|And.intro @evSlice.eq_3<|And.intro @bnd.eq_1<|And.intro @bnd.eq_2<|And.intro @cutI.eq_1<|And.intro @cutI.eq_2<|And.intro @subv.eq_1<|And.intro @selv.eq_1<|And.intro @isV.eq_1<|And.intro @isV.eq_2<|@isV.eq_3):=And.intro @isC.eq_12<|And.intro @isC.eq_13<|And.intro @isC.eq_14<|And.intro @isC.eq_15<|And.intro @isC.eq_16<|And.intro @isCC.eq_1<|And.intro @isCC.eq_2<|And.intro @isCL.eq_1<|And.intro @isCL.eq_2<|And.intro @isCL.eq_3<|And.intro @men.eq_1<|And.intro @men.eq_2<|And.intro @men.eq_3<|And.intro @men.eq_4<|And.intro @men.eq_5<|And.intro @men.eq_6<|And.intro @men.eq_7<|And.intro @men.eq_8<|And.intro @men.eq_9<|And.intro @putE.eq_1<|And.intro @putE.eq_2<|And.intro @setW.eq_1<|And.intro @setW.eq_2<|And.intro @setW.eq_3<|And.intro @set1.eq_1<|And.intro @set1.eq_2<|And.intro @del.eq_1<|And.intro @del.eq_2<|And.intro @evLoad.eq_1<|And.intro @evLoad.eq_2<|And.intro @evLoad.eq_3<|And.intro @evLoad.eq_4<|And.intro @evField.eq_1<|And.intro @evIndex.eq_1<|And.intro @evIndex.eq_2<|And.intro @evIndex.eq_3<|And.intro @evIndex.eq_4<|And.intro @evIndex.eq_5<|And.intro @evIndex.eq_6<|And.intro @evIndex.eq_7<|And.intro @evIndex.eq_8<|And.intro @evIndex.eq_9<|And.intro @evBin.eq_1<|And.intro @evBin.eq_2<|And.intro @evBin.eq_3<|And.intro @evBin.eq_4<|And.intro @evBin.eq_5<|And.intro @evBin.eq_6<|And.intro @evBin.eq_7<|And.intro @evBin.eq_8<|And.intro @evBin.eq_9<|And.intro @evBin.eq_10<|And.intro @evBin.eq_11<|And.intro @lenOf.eq_1<|And.intro @lenOf.eq_2<|And.intro @lenOf.eq_3<|And.intro @lenOf.eq_4<|And.intro @lenOf.eq_5<|And.intro @lenOf.eq_6<|And.intro @lenOf.eq_7<|And.intro @evSlice.eq_1<|And.intro @evSlice.eq_2<|And.intro @evSlice.eq_3<|And.intro @bnd.eq_1<|And.intro @bnd.eq_2<|And.intro @cutI.eq_1<|And.intro @cutI.eq_2<|And.intro @subv.eq_1<|And.intro @selv.eq_1<|And.intro @isV.eq_1<|And.intro @isV.eq_2<|@isV.eq_3
theorem zE2 : type_of% (And.intro @isV.eq_4<|And.intro @isAg.eq_1<|And.intro @isAg.eq_2<|And.intro @cellsL.eq_1<|And.intro @cellsL.eq_2<|And.intro @lenL.eq_1<|And.intro @lenL.eq_2<|And.intro @properL.eq_1<|And.intro @properL.eq_2<|And.intro @properL.eq_3<|And.intro @nthL.eq_1<|And.intro @nthL.eq_2<|And.intro @nthL.eq_3<|And.intro @dropL.eq_1<|And.intro @dropL.eq_2<|And.intro @dropL.eq_3<|And.intro @takeL.eq_1<|And.intro @takeL.eq_2<|And.intro @takeL.eq_3<|And.intro @appL.eq_1<|And.intro @appL.eq_2<|And.intro @setL.eq_1<|And.intro @setL.eq_2<|And.intro @setL.eq_3<|And.intro @updv.eq_1<|And.intro @updv.eq_2<|And.intro @TI.isStr.eq_1<|And.intro @strip.eq_1<|And.intro @strip.eq_2<|And.intro @gd.eq_1<|And.intro @gd.eq_2<|And.intro @gds.eq_1<|And.intro @gds.eq_2<|And.intro @whnR.eq_1<|And.intro @whnR.eq_2<|And.intro @evPick.eq_1<|And.intro @evStore.eq_1<|And.intro @evStore.eq_2<|And.intro @evStore.eq_3<|And.intro @stBox.eq_1<|And.intro @evApp.eq_1<|And.intro @evApp.eq_2<|And.intro @evApp.eq_3<|And.intro @evAppS.eq_1<|And.intro @evAppS.eq_2<|And.intro @evAppS.eq_3<|And.intro @evAppS.eq_4<|And.intro @List.getD_cons_zero.{0}<|And.intro @srcI.eq_1<|And.intro @srcI.eq_2<|And.intro @srcI.eq_3<|And.intro @srcB.eq_1<|And.intro @srcB.eq_2<|And.intro @srcB.eq_3<|And.intro @srcR.eq_1<|And.intro @srcR.eq_2<|And.intro @srcR.eq_3<|And.intro @evBuildS.eq_1<|And.intro @evBuildS.eq_2<|And.intro @evTake.eq_1<|And.intro @evTake.eq_2<|And.intro @makeB.eq_1<|And.intro @makeB.eq_2<|And.intro @isNilS.eq_1<|And.intro @isNilS.eq_2<|And.intro @partsOK.eq_1<|And.intro @elemsOf.eq_1<|And.intro @collI.eq_1<|And.intro @collI.eq_2<|And.intro @collI.eq_3<|And.intro @collB.eq_1<|@collB.eq_2):=And.intro @isV.eq_4<|And.intro @isAg.eq_1<|And.intro @isAg.eq_2<|And.intro @cellsL.eq_1<|And.intro @cellsL.eq_2<|And.intro @lenL.eq_1<|And.intro @lenL.eq_2<|And.intro @properL.eq_1<|And.intro @properL.eq_2<|And.intro @properL.eq_3<|And.intro @nthL.eq_1<|And.intro @nthL.eq_2<|And.intro @nthL.eq_3<|And.intro @dropL.eq_1<|And.intro @dropL.eq_2<|And.intro @dropL.eq_3<|And.intro @takeL.eq_1<|And.intro @takeL.eq_2<|And.intro @takeL.eq_3<|And.intro @appL.eq_1<|And.intro @appL.eq_2<|And.intro @setL.eq_1<|And.intro @setL.eq_2<|And.intro @setL.eq_3<|And.intro @updv.eq_1<|And.intro @updv.eq_2<|And.intro @TI.isStr.eq_1<|And.intro @strip.eq_1<|And.intro @strip.eq_2<|And.intro @gd.eq_1<|And.intro @gd.eq_2<|And.intro @gds.eq_1<|And.intro @gds.eq_2<|And.intro @whnR.eq_1<|And.intro @whnR.eq_2<|And.intro @evPick.eq_1<|And.intro @evStore.eq_1<|And.intro @evStore.eq_2<|And.intro @evStore.eq_3<|And.intro @stBox.eq_1<|And.intro @evApp.eq_1<|And.intro @evApp.eq_2<|And.intro @evApp.eq_3<|And.intro @evAppS.eq_1<|And.intro @evAppS.eq_2<|And.intro @evAppS.eq_3<|And.intro @evAppS.eq_4<|And.intro @List.getD_cons_zero.{0}<|And.intro @srcI.eq_1<|And.intro @srcI.eq_2<|And.intro @srcI.eq_3<|And.intro @srcB.eq_1<|And.intro @srcB.eq_2<|And.intro @srcB.eq_3<|And.intro @srcR.eq_1<|And.intro @srcR.eq_2<|And.intro @srcR.eq_3<|And.intro @evBuildS.eq_1<|And.intro @evBuildS.eq_2<|And.intro @evTake.eq_1<|And.intro @evTake.eq_2<|And.intro @makeB.eq_1<|And.intro @makeB.eq_2<|And.intro @isNilS.eq_1<|And.intro @isNilS.eq_2<|And.intro @partsOK.eq_1<|And.intro @elemsOf.eq_1<|And.intro @collI.eq_1<|And.intro @collI.eq_2<|And.intro @collI.eq_3<|And.intro @collB.eq_1<|@collB.eq_2
theorem zE3 : type_of% (And.intro @collB.eq_3<|And.intro @collII.eq_1<|And.intro @collII.eq_2<|And.intro @collII.eq_3<|And.intro @allC.eq_1<|And.intro @allN.eq_1<|And.intro @fillL.eq_1<|And.intro @fillL.eq_2<|And.intro @evCut.eq_1<|And.intro @evFz.eq_1<|And.intro @evFz.eq_2<|And.intro @evFz.eq_3<|And.intro @evFz.eq_4<|And.intro @evFz.eq_5<|And.intro @lko.eq_1<|And.intro @lko.eq_2<|And.intro @z0.{0}<|And.intro @renB.eq_1<|And.intro @renB.eq_2<|And.intro @renB.eq_3<|And.intro @renB.eq_4<|And.intro @renB.eq_5<|And.intro @z1.{0}<|And.intro @z2.{0}<|And.intro @z3<|And.intro @z4<|And.intro @notD.eq_1<|And.intro @notD.eq_2<|And.intro @chkG.eq_1<|And.intro @evCopy.eq_1<|And.intro @evCall.eq_1<|And.intro @ofSR.eq_1<|And.intro @viewA.eq_1<|And.intro @viewA.eq_2<|And.intro @viewA.eq_3<|And.intro @viewA.eq_4<|And.intro @viewA.eq_5<|And.intro @lsOf.eq_1<|And.intro @lsOf.eq_2<|And.intro @ofL.eq_1<|And.intro @ofL.eq_2<|And.intro @zfree.eq_1<|And.intro @zfree.eq_2<|And.intro @zfree.eq_3<|And.intro @zfree.eq_4<|And.intro @zfree.eq_5<|And.intro @zfree.eq_6<|And.intro @zfree.eq_7<|And.intro @zfree.eq_8<|And.intro @zfree.eq_9<|And.intro @zfree.eq_10<|And.intro @zfree.eq_11<|And.intro @zfreeB.eq_1<|And.intro @zfreeB.eq_2<|And.intro @zfreeB.eq_3<|And.intro @zfreeB.eq_4<|And.intro @freeB.eq_1<|And.intro @freeB.eq_2<|And.intro @freeB.eq_3<|And.intro @freeB.eq_4<|And.intro @freeB.eq_5<|And.intro @freeB.eq_6<|And.intro @isOne.eq_1<|And.intro @ren.eq_1<|And.intro @ren.eq_2<|And.intro @ren.eq_3<|And.intro @ren.eq_4<|And.intro @ren.eq_5<|And.intro @ren.eq_6<|And.intro @ren.eq_7<|And.intro @ren.eq_8<|@ren.eq_9):=And.intro @collB.eq_3<|And.intro @collII.eq_1<|And.intro @collII.eq_2<|And.intro @collII.eq_3<|And.intro @allC.eq_1<|And.intro @allN.eq_1<|And.intro @fillL.eq_1<|And.intro @fillL.eq_2<|And.intro @evCut.eq_1<|And.intro @evFz.eq_1<|And.intro @evFz.eq_2<|And.intro @evFz.eq_3<|And.intro @evFz.eq_4<|And.intro @evFz.eq_5<|And.intro @lko.eq_1<|And.intro @lko.eq_2<|And.intro @z0.{0}<|And.intro @renB.eq_1<|And.intro @renB.eq_2<|And.intro @renB.eq_3<|And.intro @renB.eq_4<|And.intro @renB.eq_5<|And.intro @z1.{0}<|And.intro @z2.{0}<|And.intro @z3<|And.intro @z4<|And.intro @notD.eq_1<|And.intro @notD.eq_2<|And.intro @chkG.eq_1<|And.intro @evCopy.eq_1<|And.intro @evCall.eq_1<|And.intro @ofSR.eq_1<|And.intro @viewA.eq_1<|And.intro @viewA.eq_2<|And.intro @viewA.eq_3<|And.intro @viewA.eq_4<|And.intro @viewA.eq_5<|And.intro @lsOf.eq_1<|And.intro @lsOf.eq_2<|And.intro @ofL.eq_1<|And.intro @ofL.eq_2<|And.intro @zfree.eq_1<|And.intro @zfree.eq_2<|And.intro @zfree.eq_3<|And.intro @zfree.eq_4<|And.intro @zfree.eq_5<|And.intro @zfree.eq_6<|And.intro @zfree.eq_7<|And.intro @zfree.eq_8<|And.intro @zfree.eq_9<|And.intro @zfree.eq_10<|And.intro @zfree.eq_11<|And.intro @zfreeB.eq_1<|And.intro @zfreeB.eq_2<|And.intro @zfreeB.eq_3<|And.intro @zfreeB.eq_4<|And.intro @freeB.eq_1<|And.intro @freeB.eq_2<|And.intro @freeB.eq_3<|And.intro @freeB.eq_4<|And.intro @freeB.eq_5<|And.intro @freeB.eq_6<|And.intro @isOne.eq_1<|And.intro @ren.eq_1<|And.intro @ren.eq_2<|And.intro @ren.eq_3<|And.intro @ren.eq_4<|And.intro @ren.eq_5<|And.intro @ren.eq_6<|And.intro @ren.eq_7<|And.intro @ren.eq_8<|@ren.eq_9
theorem zE4 : type_of% (And.intro @zipE.eq_1<|And.intro @zipE.eq_2<|And.intro @Go.Op.operands.eq_1<|And.intro @Go.Op.operands.eq_2<|And.intro @Go.Op.operands.eq_3<|And.intro @Go.Op.operands.eq_4<|And.intro @Go.Op.operands.eq_5<|And.intro @Go.Op.operands.eq_6<|And.intro @Go.Op.operands.eq_7<|And.intro @Go.Op.operands.eq_8<|And.intro @Go.Op.operands.eq_9<|And.intro @Go.Op.operands.eq_10<|And.intro @Go.Op.operands.eq_11<|And.intro @Go.Op.operands.eq_12<|And.intro @Go.Op.operands.eq_13<|And.intro @Go.Op.operands.eq_14<|And.intro @Go.Op.operands.eq_15<|And.intro @Go.Op.operands.eq_16<|And.intro @Go.Op.operands.eq_17<|And.intro @Go.Op.operands.eq_18<|And.intro @Go.Op.operands.eq_19<|And.intro @Go.Op.operands.eq_20<|And.intro @Go.Op.operands.eq_21<|And.intro @Go.Op.operands.eq_22<|And.intro @Go.Op.operands.eq_23<|And.intro @Go.Op.operands.eq_24<|And.intro @Go.Op.operands.eq_25<|And.intro @Go.Op.operands.eq_26<|And.intro @Go.Op.operands.eq_27<|And.intro @Go.Op.operands.eq_28<|And.intro @Go.Op.operands.eq_29<|And.intro @Go.Op.operands.eq_30<|And.intro @Go.Op.operands.eq_31<|And.intro @Go.Op.operands.eq_32<|And.intro @Go.Op.operands.eq_33<|And.intro @Go.Op.operands.eq_34<|And.intro @Go.Op.operands.eq_35<|And.intro @Go.Op.operands.eq_36<|And.intro @Go.Op.operands.eq_37<|And.intro @Go.Op.operands.eq_38<|And.intro @Go.Op.operands.eq_39<|And.intro @Go.Op.operands.eq_40<|And.intro @Go.Op.operands.eq_41<|And.intro @Go.Op.operands.eq_42<|And.intro @Go.Op.operands.eq_43<|And.intro @Go.Call.operands.eq_1<|And.intro @nbeq<|And.intro @nble<|And.intro @nblt<|And.intro @z5<|And.intro @z6<|And.intro @z7<|And.intro @z8<|And.intro @z9<|And.intro @z10<|And.intro @z11<|And.intro @z12<|And.intro @z13<|And.intro @z14<|And.intro @z15<|And.intro @z16<|And.intro @z17<|And.intro @z18<|And.intro @z19.{0}<|And.intro @z20.{0}<|And.intro @z21.{0}<|And.intro @z22.{0,0}<|And.intro @z23.{0,0}<|And.intro @z24.{0}<|And.intro @z25.{0}<|And.intro @z26.{0,0}<|@z27.{0,0}):=And.intro @zipE.eq_1<|And.intro @zipE.eq_2<|And.intro @Go.Op.operands.eq_1<|And.intro @Go.Op.operands.eq_2<|And.intro @Go.Op.operands.eq_3<|And.intro @Go.Op.operands.eq_4<|And.intro @Go.Op.operands.eq_5<|And.intro @Go.Op.operands.eq_6<|And.intro @Go.Op.operands.eq_7<|And.intro @Go.Op.operands.eq_8<|And.intro @Go.Op.operands.eq_9<|And.intro @Go.Op.operands.eq_10<|And.intro @Go.Op.operands.eq_11<|And.intro @Go.Op.operands.eq_12<|And.intro @Go.Op.operands.eq_13<|And.intro @Go.Op.operands.eq_14<|And.intro @Go.Op.operands.eq_15<|And.intro @Go.Op.operands.eq_16<|And.intro @Go.Op.operands.eq_17<|And.intro @Go.Op.operands.eq_18<|And.intro @Go.Op.operands.eq_19<|And.intro @Go.Op.operands.eq_20<|And.intro @Go.Op.operands.eq_21<|And.intro @Go.Op.operands.eq_22<|And.intro @Go.Op.operands.eq_23<|And.intro @Go.Op.operands.eq_24<|And.intro @Go.Op.operands.eq_25<|And.intro @Go.Op.operands.eq_26<|And.intro @Go.Op.operands.eq_27<|And.intro @Go.Op.operands.eq_28<|And.intro @Go.Op.operands.eq_29<|And.intro @Go.Op.operands.eq_30<|And.intro @Go.Op.operands.eq_31<|And.intro @Go.Op.operands.eq_32<|And.intro @Go.Op.operands.eq_33<|And.intro @Go.Op.operands.eq_34<|And.intro @Go.Op.operands.eq_35<|And.intro @Go.Op.operands.eq_36<|And.intro @Go.Op.operands.eq_37<|And.intro @Go.Op.operands.eq_38<|And.intro @Go.Op.operands.eq_39<|And.intro @Go.Op.operands.eq_40<|And.intro @Go.Op.operands.eq_41<|And.intro @Go.Op.operands.eq_42<|And.intro @Go.Op.operands.eq_43<|And.intro @Go.Call.operands.eq_1<|And.intro @nbeq<|And.intro @nble<|And.intro @nblt<|And.intro @z5<|And.intro @z6<|And.intro @z7<|And.intro @z8<|And.intro @z9<|And.intro @z10<|And.intro @z11<|And.intro @z12<|And.intro @z13<|And.intro @z14<|And.intro @z15<|And.intro @z16<|And.intro @z17<|And.intro @z18<|And.intro @z19.{0}<|And.intro @z20.{0}<|And.intro @z21.{0}<|And.intro @z22.{0,0}<|And.intro @z23.{0,0}<|And.intro @z24.{0}<|And.intro @z25.{0}<|And.intro @z26.{0,0}<|@z27.{0,0}
theorem zE5 : type_of% (And.intro @z28.{0}<|And.intro @z29.{0}<|And.intro @z30.{0}<|And.intro @z31.{0}<|And.intro @z32.{0}<|And.intro @z33.{0}<|And.intro @z34.{0}<|And.intro @z35.{0}<|And.intro @z36<|And.intro @z37<|And.intro @imp_self<|And.intro @EO.mk.injEq<|And.intro @z39<|And.intro @z40<|And.intro @z41.{0}<|And.intro @z42.{0}<|And.intro @z43<|And.intro @z44<|And.intro @z45<|And.intro @z46<|And.intro @z47<|And.intro @z48<|And.intro @z49<|And.intro @z50<|And.intro @ne_eq.{1}<|And.intro @z51<|And.intro @z52<|And.intro @z53<|And.intro @z54<|And.intro @z55<|And.intro @z56.{0}<|And.intro @z57.{0}<|And.intro @inI.eq_1<|And.intro @evRes.eq_1<|And.intro @evRes.eq_2<|And.intro @evRes.eq_3<|And.intro @resV.eq_1<|And.intro @resV.eq_2<|And.intro @mkL.eq_1<|And.intro @mkL.eq_2<|And.intro @ltK.eq_1<|And.intro @rhoL.eq_1<|And.intro @rhoL.eq_2<|And.intro @leE.eq_1<|And.intro @leE.eq_2<|And.intro @leR.eq_1<|And.intro @leR.eq_2<|And.intro @leR.eq_3<|And.intro @menB.eq_1<|And.intro @menB.eq_2<|And.intro @menB.eq_3<|And.intro @menB.eq_4<|And.intro @menB.eq_5<|And.intro @menE.eq_1<|And.intro @menE.eq_2<|And.intro @fzA.eq_1<|And.intro @fzA.eq_2<|And.intro @fzA.eq_3<|And.intro @fzA.eq_4<|And.intro @fzA.eq_5<|And.intro @fzA.eq_6<|And.intro @fzA.eq_7<|And.intro @fzE.eq_1<|And.intro @fzE.eq_2<|And.intro @fzB.eq_1<|And.intro @fzB.eq_2<|And.intro @fzR.eq_1<|And.intro @fzR.eq_2<|@fzR.eq_3):=And.intro @z28.{0}<|And.intro @z29.{0}<|And.intro @z30.{0}<|And.intro @z31.{0}<|And.intro @z32.{0}<|And.intro @z33.{0}<|And.intro @z34.{0}<|And.intro @z35.{0}<|And.intro @z36<|And.intro @z37<|And.intro @imp_self<|And.intro @EO.mk.injEq<|And.intro @z39<|And.intro @z40<|And.intro @z41.{0}<|And.intro @z42.{0}<|And.intro @z43<|And.intro @z44<|And.intro @z45<|And.intro @z46<|And.intro @z47<|And.intro @z48<|And.intro @z49<|And.intro @z50<|And.intro @ne_eq.{1}<|And.intro @z51<|And.intro @z52<|And.intro @z53<|And.intro @z54<|And.intro @z55<|And.intro @z56.{0}<|And.intro @z57.{0}<|And.intro @inI.eq_1<|And.intro @evRes.eq_1<|And.intro @evRes.eq_2<|And.intro @evRes.eq_3<|And.intro @resV.eq_1<|And.intro @resV.eq_2<|And.intro @mkL.eq_1<|And.intro @mkL.eq_2<|And.intro @ltK.eq_1<|And.intro @rhoL.eq_1<|And.intro @rhoL.eq_2<|And.intro @leE.eq_1<|And.intro @leE.eq_2<|And.intro @leR.eq_1<|And.intro @leR.eq_2<|And.intro @leR.eq_3<|And.intro @menB.eq_1<|And.intro @menB.eq_2<|And.intro @menB.eq_3<|And.intro @menB.eq_4<|And.intro @menB.eq_5<|And.intro @menE.eq_1<|And.intro @menE.eq_2<|And.intro @fzA.eq_1<|And.intro @fzA.eq_2<|And.intro @fzA.eq_3<|And.intro @fzA.eq_4<|And.intro @fzA.eq_5<|And.intro @fzA.eq_6<|And.intro @fzA.eq_7<|And.intro @fzE.eq_1<|And.intro @fzE.eq_2<|And.intro @fzB.eq_1<|And.intro @fzB.eq_2<|And.intro @fzR.eq_1<|And.intro @fzR.eq_2<|@fzR.eq_3
def fF : Nat→Bool:=fun _=>false
theorem fF_eq {i:Nat}:fF i=false:=rfl
theorem zE : type_of% (And.intro @zE0<|And.intro @zE1<|And.intro @zE2<|And.intro @zE3<|And.intro @zE4<|And.intro @zE5 @fF_eq):=And.intro @zE0<|And.intro @zE1<|And.intro @zE2<|And.intro @zE3<|And.intro @zE4<|And.intro @zE5 @fF_eq
theorem zI : type_of% (And.intro @AV.int.injEq<|And.intro @AV.bool.injEq<|And.intro @AV.roI.injEq<|And.intro @AV.roB.injEq<|And.intro @AV.roII.injEq<|And.intro @AV.rop.injEq<|And.intro @AV.agg.injEq<|And.intro @AV.tup.injEq<|And.intro @AV.cons.injEq<|And.intro @AV.own.injEq<|And.intro @AV.whn.injEq<|And.intro @Blk.ints.injEq<|And.intro @Blk.bools.injEq<|And.intro @Blk.rows.injEq<|And.intro @Blk.rowsR.injEq<|And.intro @Blk.box.injEq<|And.intro @Option.some.injEq.{0}<|And.intro @Int.natCast_add<|And.intro @Int.natCast_one<|@Int.cast_ofNat_Int):=And.intro @AV.int.injEq<|And.intro @AV.bool.injEq<|And.intro @AV.roI.injEq<|And.intro @AV.roB.injEq<|And.intro @AV.roII.injEq<|And.intro @AV.rop.injEq<|And.intro @AV.agg.injEq<|And.intro @AV.tup.injEq<|And.intro @AV.cons.injEq<|And.intro @AV.own.injEq<|And.intro @AV.whn.injEq<|And.intro @Blk.ints.injEq<|And.intro @Blk.bools.injEq<|And.intro @Blk.rows.injEq<|And.intro @Blk.rowsR.injEq<|And.intro @Blk.box.injEq<|And.intro @Option.some.injEq.{0}<|And.intro @Int.natCast_add<|And.intro @Int.natCast_one<|@Int.cast_ofNat_Int
theorem zH : type_of% (And.intro @Bool.and_eq_false_iff<|And.intro @decide_eq_true_eq<|And.intro @decide_eq_false_iff_not<|And.intro @Bool.or_eq_true<|And.intro @Bool.or_eq_false_iff<|And.intro @Bool.and_eq_true<|And.intro @Bool.not_eq_true'<|And.intro @Bool.not_eq_false'<|And.intro @not_or<|And.intro @Int.not_lt<|@Int.not_le):=And.intro @Bool.and_eq_false_iff<|And.intro @decide_eq_true_eq<|And.intro @decide_eq_false_iff_not<|And.intro @Bool.or_eq_true<|And.intro @Bool.or_eq_false_iff<|And.intro @Bool.and_eq_true<|And.intro @Bool.not_eq_true'<|And.intro @Bool.not_eq_false'<|And.intro @not_or<|And.intro @Int.not_lt<|@Int.not_le
open Go
section
variable {P:Program} {ro:Option Nat} {N κ:Nat} {tb:Nat→Option TI}
theorem Za2 {id:Nat} {ops:Array Oper} {σ:St} {Q:Exit→St→Prop} (l1:List Oper) {o:Oper} (l2:List Oper) (he:ops=(l1++o :: l2).toArray) (hG:noG (l1++o :: l2)=true)
  (h:awpL P ro N κ l1 σ (Zfe (fun s=>awpL P ro N κ [o] s (Zfe (fun s=>awpL P ro N κ l2 s Q) Q)) Q)):awp P ro N κ (.region id ops false) σ Q:=by
 subst he
 refine Zcf hG (Zb6 ?_)
 intro n K Z ν w a hg
 refine Zcc ?_ (h n K Z ν w a hg)
 rintro e a' w' ⟨Z',ν',s',h1,h2,h3,h4⟩
 refine ⟨Z',ν',s',h1,h2,h3,?_⟩
 cases e with
 |normal=>exact Zb6 (l1:=[o]) h4
 |_=>exact h4
def rinR (kk:List Nat) (m:Nat) (l:List (Nat × Option Blk)):List (Nat × Option Blk)→Prop
 |[]=>True
 |(k,some B) :: t=>(Nat.blt k kk.length=true∧menB (ltK kk.length) B∧lkr l (rhoC kk m k)=some (renB (rhoC kk m) B))∧rinR kk m l t
 |(_,none) :: t=>rinR kk m l t
theorem Zhn {kk:List Nat} {m:Nat} {l:List (Nat × Option Blk)} {k:Nat} {B:Blk}:∀ {g:List (Nat × Option Blk)},rinR kk m l g→(k,some B)∈g→Nat.blt k kk.length=true∧menB (ltK kk.length) B∧lkr l (rhoC kk m k)=some (renB (rhoC kk m) B)
 |[],_,h=>absurd h List.not_mem_nil
 |(j,none) :: t,hg,h=>by
  rcases List.mem_cons.1 h with e|h
  ·cases e
  ·exact Zhn (g:=t) hg h
 |(j,some B') :: t,hg,h=>by
  rcases List.mem_cons.1 h with e|h
  ·cases e;exact hg.1
  ·exact Zhn (g:=t) hg.2 h
theorem Zim {o:Oper} {x:Operand} {xs:List Operand} {ts:Array TypeId} {f m:Nat} {caps:AV} {env:List (Nat × AV)} {l:List (Nat × Option Blk)} {ms:List Nat} (kk:List Nat) {args:List AV} {rin:List (Nat × Option Blk)} {Q0:GR→Prop} {Q:Exit→St→Prop}
  (hS:FG P f args rin kk.length Q0)
  (ho:o.op=.call ⟨.value x,xs.toArray,ts⟩) (hgd:o.guard.isNone=true) (hd:Zdq N [o]=true) (hf:opv (lke env) x=.fn f caps) (hpc:properL caps=true)
  (hargs:appL (ofL (opv (lke env)) xs) caps=ren (rhoC kk m) (mkL args)) (hmen:men (ltK kk.length) (mkL args)=true) (hkk:kkOK m kk=true) (hκ:Nat.ble κ m=true)
  (hrin:rinR kk m l rin)
  (next:∀ gm gv gr,Q0 ⟨gm,gv,gr⟩→∀ m' e' l',(m+(gm - kk.length)=m'∧putE o.dst (ren (rhoC kk m) gv) env=e'∧outR kk m gr l=l')→Q .normal (CS.st ⟨m',e',l',ms⟩)):awpL P ro N κ [o] (CS.st ⟨m,env,l,ms⟩) Q:=by
 refine awpL_call (s:=⟨m,env,l,ms⟩) kk hS ho hgd hd hf hpc hargs hmen hkk hκ (fun j B hj=>?_) (fun g hg hle=>next g.m g.val g.rs hg _ _ _ ⟨rfl,rfl,rfl⟩)
 obtain ⟨h1,h2,h3⟩:=Zhn hrin (Zdu hj).2
 rw [Nat.blt_eq] at h1
 exact ⟨h1,h2,h3⟩
theorem R_unfz {Z:Nat→Prop} {w:World} {ν:Nat→Value} {k:Nat} {v:Value} (hv:ν k=v):∀ {u:AV} {b:Bool} {cs:List Value},R Z w (fzA k (.cst v) u) ν b cs→R Z w u ν b cs:=by
 intro u
 induction u with
 |own j =>
  intro b cs h
  simp only [fzA] at h
  cases hb:Nat.beq j k with
  |true =>
   rw [hb] at h
   obtain rfl:=Nat.eq_of_beq_eq_true hb
   rw [show cs=[v] from h]
   show [v]=[ν j]
   rw [hv]
  |false=>rw [hb] at h;exact h
 |agg l ih =>
  intro b cs h
  cases b with
  |true=>obtain ⟨es,e,r⟩:=h;exact ⟨es,e,ih r⟩
  |false=>exact ih (b:=true) h
 |tup l ih=>intro b cs h;obtain ⟨es,e,r⟩:=h;exact ⟨es,e,ih r⟩
 |cons a t ih1 ih2=>intro b cs h;obtain ⟨x,vs,e,r1,r2⟩:=h;exact ⟨x,vs,e,ih1 r1,ih2 r2⟩
 |fn f c ih=>intro b cs h;obtain ⟨vs,e,r⟩:=h;exact ⟨vs,e,ih r⟩
 |whn g u ih=>intro b cs h;exact ⟨fun hg=>ih (h.1 hg),h.2⟩
 |_=>intro b cs h;exact h
theorem Zft {c:Code} {m:Nat} {env:List (Nat × AV)} {rs:List (Nat × Option Blk)} {ms:List Nat} {Q:Exit→St→Prop} (k:Nat) (B:Blk) {u:AV} (u':AV) (hk0:lkr rs k=some (.box u)) (hu:fzA m (.cst (.slice none 0 0)) u'=u) (hm':men (ltK (m+1)) u'=true)
  (hB:B=.ints []∨B=.bools []∨B=.rowsR []∨B=.rows []) {rs':List (Nat × Option Blk)} (hrs:set1 k (.box u') ((m,some B) :: rs)=rs') (hκ:Nat.ble κ m=true)
  (h:awp P ro N κ c (CS.st ⟨m+1,env,rs',ms⟩) Q):awp P ro N κ c (CS.st ⟨m,env,rs,ms⟩) Q:=by
 intro n K Z ν w a hg
 have hk:(CS.st ⟨m,env,rs,ms⟩).mu m=false:=by show Nat.blt m m=false;rw [nblt];simp
 have hsat:∀ w ν,sat Z w ν (.slice none 0 0) (fun _=>False) B:=by
  intro w ν
  rcases hB with rfl|rfl|rfl|rfl
  ·exact .inl ⟨rfl,rfl,fun _ h=>h⟩
  ·exact .inl ⟨rfl,rfl,fun _ h=>h⟩
  ·exact .inl ⟨rfl,rfl,fun _ h=>h⟩
  ·exact ⟨fun _=>.slice none 0 0,fun _ _=>False,fun _=>False,.inl ⟨rfl,rfl,fun _ h=>h⟩,fun j hj=>by simp at hj,fun y=>⟨fun h=>.inl h,fun h=>h.elim id fun ⟨j,hj,_⟩=>by simp at hj⟩⟩
 have hmB:∀ μ,menB μ B:=by intro μ;rcases hB with rfl|rfl|rfl|rfl<;>exact trivial
 have hgr:=Zew (w':=w) (x:=.slice none 0 0) (B:=B) (F:=fun _=>False) hg.rs hg.zk hg.kl hk (Nat.le_refl _) (fun _ _=>rfl) (hsat _ _) (hmB _) (fun y hy=>hy.elim)
 have hν:=Zcd (ν:=ν) (x:=.slice none 0 0) hk
 have hmu:∀ j,addK (CS.st ⟨m,env,rs,ms⟩).mu (some m) j=true→ltK (m+1) j=true:=by
  intro j hj
  simp only [addK,CS.st,ltK,nblt,nbeq,Bool.or_eq_true,decide_eq_true_eq] at hj ⊢
  omega
 have hkm:k≠m:=by
  rintro rfl
  obtain ⟨Ft,hF⟩:=hg.rs
  have:=(hF k _ hk0).1
  rw [hk] at this;cases this
 have hgr2:GoodRs K Z w (upN ν m (.slice none 0 0)) (ltK (m+1)) (lkr rs'):=by
  have e:updL (CS.st ⟨m,env,rs,ms⟩).rs [(m,some B)]=lkr ((m,some B) :: rs):=by
   funext j
   rw [Zai]
   simp only [updL,lko]
   by_cases hj:j=m
   ·subst hj;simp [Nat.beq_refl]
   ·simp only [beqN hj,if_neg hj];rfl
  have:=hgr.nu (μ':=ltK (m+1)) hmu (fun _ _=>rfl)
  rw [e] at this
  obtain ⟨Ft,hF⟩:=this
  have hl:∀ j,lkr rs' j=if j=k then some (.box u') else lkr ((m,some B) :: rs) j:=by
   intro j
   rw [←hrs]
   have:lkr (setW [(k,some (.box u'))] ((m,some B) :: rs)) j=_:=congrFun (Zhw) j
   rw [show setW [(k,some (Blk.box u'))] ((m,some B) :: rs)=set1 k (.box u') ((m,some B) :: rs) from rfl] at this
   rw [this]
   simp only [updL,lko]
   by_cases hj:j=k
   ·subst hj;simp [Nat.beq_refl]
   ·simp only [beqN hj,if_neg hj]
  have hk1:lkr ((m,some B) :: rs) k=some (.box u):=by rw [Zai,if_neg hkm];exact hk0
  refine ⟨Ft,fun j b hj=>?_⟩
  rw [hl j] at hj
  have hdis:∀ k' b',j≠k'→lkr rs' k'=some b'→∃ b'',lkr ((m,some B) :: rs) k'=some b'':=by
   intro k' b' _ hk'
   rw [hl k'] at hk'
   split at hk'
   ·rename_i e;rw [e];exact ⟨_,hk1⟩
   ·exact ⟨_,hk'⟩
  by_cases hjk:j=k
  ·rw [if_pos hjk] at hj
   cases hj
   subst hjk
   obtain ⟨g1,g2,g3,g4,g5⟩:=hF _ _ hk1
   refine ⟨g1,hm',?_,g4,fun k' b' hne hk'=>?_⟩
   ·obtain ⟨b,cells,T,s1,s2,s3,s4⟩:=g3
    exact ⟨b,cells,T,s1,s2,R_unfz (k:=m) (v:=.slice none 0 0) upN_same (by rw [hu];exact s3),s4⟩
   ·obtain ⟨b'',hb⟩:=hdis k' b' hne hk'
    exact g5 k' b'' hne hb
  ·rw [if_neg hjk] at hj
   obtain ⟨g1,g2,g3,g4,g5⟩:=hF _ _ hj
   refine ⟨g1,g2,g3,g4,fun k' b' hne hk'=>?_⟩
   obtain ⟨b'',hb⟩:=hdis k' b' hne hk'
   exact g5 k' b'' hne hb
 have hgood:Good K Z N w (upN ν m (.slice none 0 0)) (CS.st ⟨m+1,env,rs',ms⟩) a:=by
  refine ⟨hg.size,Zdm hg.one rfl,fun s=>?_,hgr2,hg.zk,hg.kl,?_,fun j hj=>hmu j (Zci j (hg.ml j hj))⟩
  ·have:=hg.env s
   exact ⟨Zdt (fun j hj=>hmu j (Zci j hj)) this.1,R_nu hν this.1 this.2⟩
  ·rw [hg.ds]
   exact fmC fun j hj=>by rw [hν j (hg.ml j hj)]
 refine wpIn_mono (h n K Z _ w a hgood) ?_
 rintro e a' w' ⟨Z',ν',s',h1,h2,h3,h4⟩
 exact ⟨Z',ν',s',h1,fun j hj=>(h2 j hj).trans (Zfn (by rintro rfl;have:=Nat.le_of_ble_eq_true hκ;omega)),h3,h4⟩
end
open Go
structure Hd (A:Prop):Type where
 h:A
def Zo7 (_:List Nat):Prop:=True
def ChF (_:Nat→Bool):Prop:=True
def x0 : Hd True:=⟨trivial⟩
theorem ap1 {c G:Prop} (f:c→G) (h:c):G:=f h
section
variable {P:Program} {ro:Option Nat} {N κ:Nat} {tb:Nat→Option TI} {sp:Nat→Option Spec}
def KK (_:List Nat):Prop:=True
theorem awp_textH {ch:Nat→Bool} (hc:ChF ch) (htb:Zdf P tb) (hmz:∀ t i,tb t=some i→men noK i.zero=true) (hsp:SpOK P sp) {id m:Nat} {ops:List Oper} {env:List (Nat × AV)} {l:List (Nat × Option Blk)} {ms:List Nat} {Q:Exit→St→Prop} (hN:Zdq N ops=true) (hκ:Nat.ble κ m=true)
  (h:∀ m' e' l' ob,evOut tb sp ch m ops ops 0 ⟨m,env,l,True⟩=⟨m',e',l',ob⟩→Ob ob∧Q .normal (CS.st ⟨m',e',l',ms⟩)):awp P ro N κ (.region id ops.toArray false) (CS.st ⟨m,env,l,ms⟩) Q:=Zgl htb hmz hsp ch hN hκ h
theorem awp_drawH {ch:Nat→Bool} (hc:ChF ch) (hmo:P.follows .mixedOrders=true) (htb:Zdf P tb) (hmz:∀ t i,tb t=some i→men noK i.zero=true) (hsp:SpOK P sp) {id m:Nat} {ops:List Oper} {env:List (Nat × AV)} {l:List (Nat × Option Blk)} {ms:List Nat} {Q:Exit→St→Prop} (hN:Zdq N ops=true) (hκ:Nat.ble κ m=true)
  (hd:Zkd ops (Zb4 tb sp ch m ops ops 0 env l).its=true)
  (h:∀ m' e' l' ob,evOut tb sp ch m ops ops 0 ⟨m,env,l,True⟩=⟨m',e',l',ob⟩→Ob ob∧Q .normal (CS.st ⟨m',e',l',ms⟩)):awp P ro N κ (.region id ops.toArray true) (CS.st ⟨m,env,l,ms⟩) Q:=Zgm hmo htb hmz hsp ch hN hκ hd h
theorem Zn4 {id:Nat} {ops:Array Oper} {d:Bool} {σ:St} {Q:Exit→St→Prop} {l:List Nat} (nk:Zo7 l) (hs:l.all (fun s => !Nat.beq id s)=true) (h:awp P ro N κ (.region id ops d) σ Q):awp P ro N κ (.region id ops d) σ Q:=h
end
theorem oA {p:Prop} (h:p:=by
 first
 |exact trivial
 |(intros;omega)
 |((repeat' first|apply And.intro|(intro a;have b:=a;try simp only [zH] at b))<;>first|(with_reducible exact True.intro)|assumption|omega|(simp only [zH];omega))):Ob p:=h
theorem oB {p:Prop} (h:p:=by
 first
 |exact trivial
 |(intros;omega)
 |((repeat' first|apply And.intro|(intro a;have b:=a;try simp only [zH] at b))<;>first|(with_reducible exact True.intro)|assumption|omega|(simp only [zH];omega))):p:=h
theorem gE {G:Prop} (t:G:=by
 with_reducible refine Ob.mk ?_
 exact oB):G:=t
theorem gS {sp:Nat→Option Spec} {X R G:Prop} (hsp:SpOK Tryz.prog sp) (x:Hd X) (l:List Nat) (r:R) (t:SpOK Tryz.prog sp→Hd X→Zo7 l→R→G:=by
 intro hsp x nk r
 first
 |(with_reducible first|apply Zea|apply Zj3|apply Zaf|apply Zfq|apply exit_then|apply ret_then|apply ret_block|apply exit_here|apply awp_exit|apply awp_ret|apply Zja|apply awp_label|apply next_noGoto|apply ret_noGoto|apply exit_noGoto|apply awp_scope)
 |((with_reducible refine exit_past ?_ ?_);exact rfl)|((with_reducible refine Zn4 nk ?_ ?_);exact rfl;(first|refine Zgl htb hmz hsp fF rfl rfl ?_|refine Zgm hmo htb hmz hsp fF rfl rfl (by kernel_rfl) ?_);intro _ _ _ _ h;simp only [zE,evp,evx,ev1,evLoad,evStore,evBin,evIf,Zac,forall_const,z38,tb,reduceAdd,reduceSub,reduceMul,reduceEqDiff,reduceLeDiff,reduceLT,Nat.reduceBEq,Nat.reduceBNe,↓reduceIte,reduceIte,x.h] at h;obtain ⟨rfl,rfl,rfl,rfl⟩:=h;refine ⟨?_,?_⟩;focus (clear r x nk hsp;exact oA))
 repeat' first
 |(with_reducible first|apply Zea|apply Zj3|apply Zaf|apply Zfq|apply exit_then|apply ret_then|apply ret_block|apply exit_here|apply awp_exit|apply awp_ret|apply Zja|apply awp_label|apply next_noGoto|apply ret_noGoto|apply exit_noGoto|apply awp_scope)
 |((with_reducible refine exit_past ?_ ?_);exact rfl)|((with_reducible refine Zn4 nk ?_ ?_);exact rfl;(first|refine Zgl htb hmz hsp fF rfl rfl ?_|refine Zgm hmo htb hmz hsp fF rfl rfl (by kernel_rfl) ?_);intro _ _ _ _ h;simp only [zE,evp,evx,ev1,evLoad,evStore,evBin,evIf,Zac,forall_const,z38,tb,reduceAdd,reduceSub,reduceMul,reduceEqDiff,reduceLeDiff,reduceLT,Nat.reduceBEq,Nat.reduceBNe,↓reduceIte,reduceIte,x.h] at h;obtain ⟨rfl,rfl,rfl,rfl⟩:=h;refine ⟨?_,?_⟩;focus (clear r x nk hsp;exact oA))
 exact r
 first|done|fail):G:=t hsp x trivial r
theorem gO {sp:Nat→Option Spec} {X R1 R2 G:Prop} (hsp:SpOK Tryz.prog sp) (x:Hd X) (l:List Nat) (r1:R1) (r2:R2) (t:SpOK Tryz.prog sp→Hd X→Zo7 l→R1→R2→G:=by
 intro hsp x nk r1 r2
 with_reducible refine Zn4 nk ?_ ?_
 exact rfl
 first|refine Zgl htb hmz hsp fF rfl rfl ?_|refine Zgm hmo htb hmz hsp fF rfl rfl (by kernel_rfl) ?_
 intro _ _ _ _ h
 simp only [zE,evp,evx,ev1,evLoad,evStore,evBin,evIf,Zac,forall_const,z38,tb,reduceAdd,reduceSub,reduceMul,reduceEqDiff,reduceLeDiff,reduceLT,Nat.reduceBEq,Nat.reduceBNe,↓reduceIte,reduceIte,x.h] at h
 obtain ⟨rfl,rfl,rfl,rfl⟩:=h
 exact ⟨r1,r2⟩
 first|done|fail):G:=t hsp x trivial r1 r2
theorem gC {R1 R2 G:Prop} (r1:R1) (r2:R2) (t:R1→R2→G:=by
 intro r1 r2
 with_reducible refine isCond ?_
 refine Zj2 rfl ?_ ?_<;>intro hb<;>(try simp only [zH] at hb)
 exact ap1 r1 hb
 exact ap1 r2 hb
 first|done|fail):G:=t r1 r2
theorem gR {sp:Nat→Option Spec} {X R1 R2 G:Prop} (hsp:SpOK Tryz.prog sp) (x:Hd X) (r1:R1) (r2:R2) (t:SpOK Tryz.prog sp→Hd X→R1→R2→G:=by
 intro hsp x r1 r2
 first|refine Zgl htb hmz hsp fF rfl rfl ?_|refine Zgm hmo htb hmz hsp fF rfl rfl (by kernel_rfl) ?_
 intro _ _ _ _ h
 simp only [zE,evp,evx,ev1,evLoad,evStore,evBin,evIf,Zac,forall_const,z38,tb,reduceAdd,reduceSub,reduceMul,reduceEqDiff,reduceLeDiff,reduceLT,Nat.reduceBEq,Nat.reduceBNe,↓reduceIte,reduceIte,x.h] at h
 obtain ⟨rfl,rfl,rfl,rfl⟩:=h
 exact ⟨r1,r2⟩
 first|done|fail):G:=t hsp x r1 r2
theorem gRa {sp:Nat→Option Spec} {X R1 R2 G:Prop} (hsp:SpOK Tryz.prog sp) (x:Hd X) (ch:Nat→Bool) (r1:R1) (r2:R2) (t:SpOK Tryz.prog sp→Hd X→ChF ch→R1→R2→G:=by
 intro hsp x hc r1 r2
 first|refine awp_textH hc htb hmz hsp rfl rfl ?_|refine awp_drawH hc hmo htb hmz hsp rfl rfl (by kernel_rfl) ?_
 intro _ _ _ _ h
 simp only [zE,evp,evx,ev1,evLoad,evStore,evBin,evIf,Zac,forall_const,z38,tb,reduceAdd,reduceSub,reduceMul,reduceEqDiff,reduceLeDiff,reduceLT,Nat.reduceBEq,Nat.reduceBNe,↓reduceIte,reduceIte,x.h] at h
 obtain ⟨rfl,rfl,rfl,rfl⟩:=h
 exact ⟨r1,r2⟩
 first|done|fail):G:=t hsp x trivial r1 r2
theorem gT {sp:Nat→Option Spec} {X R1 R2 G:Prop} (hsp:SpOK Tryz.prog sp) (x:Hd X) (r1:R1) (r2:R2) (t:SpOK Tryz.prog sp→Hd X→R1→R2→G:=by
 intro hsp x r1 r2
 refine Zh7 htb hmz hsp fF rfl rfl rfl ?_
 intro _ _ _ _ h
 simp only [zE,evp,evx,ev1,evLoad,evStore,evBin,evIf,Zac,forall_const,z38,tb,reduceAdd,reduceSub,reduceMul,reduceEqDiff,reduceLeDiff,reduceLT,Nat.reduceBEq,Nat.reduceBNe,↓reduceIte,reduceIte,x.h] at h
 obtain ⟨rfl,rfl,rfl,rfl⟩:=h
 exact ⟨r1,r2⟩
 first|done|fail):G:=t hsp x r1 r2
theorem gTn {sp:Nat→Option Spec} {X R1 R2 G:Prop} (hsp:SpOK Tryz.prog sp) (x:Hd X) (r1:R1) (r2:R2) (t:SpOK Tryz.prog sp→Hd X→R1→R2→G:=by
 intro hsp x r1 r2
 refine Zh7 htb hmz hsp fF rfl rfl rfl ?_
 intro _ _ _ _ h
 simp only [zE,evp,evx,ev1,evLoad,evStore,evBin,evIf,Zac,forall_const,z38,tb,reduceAdd,reduceSub,reduceMul,reduceEqDiff,reduceLeDiff,reduceLT,Nat.reduceBEq,Nat.reduceBNe,↓reduceIte,reduceIte,x.h] at h
 obtain ⟨rfl,rfl,rfl,rfl⟩:=h
 exact ⟨r1,Zaf r2⟩
 first|done|fail):G:=t hsp x r1 r2
theorem leZ {X G:Prop} (x:Hd X) (t:Hd X→G:=by
 intro x
 refine ⟨rfl,?_,?_⟩<;>simp only [zE,evp,evx,ev1,evLoad,evStore,evBin,evIf,Zac,forall_const,z38,tb,reduceAdd,reduceSub,reduceMul,reduceEqDiff,reduceLeDiff,reduceLT,Nat.reduceBEq,Nat.reduceBNe,↓reduceIte,reduceIte,x.h,zI]
 first|done|fail):G:=t x
theorem leA {X R G:Prop} (x:Hd X) (r:R) (t:Hd X→R→G:=by
 intro x r
 refine ⟨rfl,?_,?_⟩<;>simp only [zE,evp,evx,ev1,evLoad,evStore,evBin,evIf,Zac,forall_const,z38,tb,reduceAdd,reduceSub,reduceMul,reduceEqDiff,reduceLeDiff,reduceLT,Nat.reduceBEq,Nat.reduceBNe,↓reduceIte,reduceIte,x.h,zI]
 exact r
 first|done|fail):G:=t x r
theorem leB {X R1 R2 G:Prop} (x:Hd X) (r1:R1) (r2:R2) (t:Hd X→R1→R2→G:=by
 intro x r1 r2
 refine ⟨rfl,?_,?_⟩<;>simp only [zE,evp,evx,ev1,evLoad,evStore,evBin,evIf,Zac,forall_const,z38,tb,reduceAdd,reduceSub,reduceMul,reduceEqDiff,reduceLeDiff,reduceLT,Nat.reduceBEq,Nat.reduceBNe,↓reduceIte,reduceIte,x.h,zI]
 exact r1
 exact r2
 first|done|fail):G:=t x r1 r2
section
variable {P:Program} {ro:Option Nat} {N κ:Nat} {Q:Exit→St→Prop}
theorem Zbb {c:Code} {m:Nat} {env env':List (Nat × AV)} {rs rs':List (Nat × Option Blk)} {ms:List Nat} (k:Nat) {B:Blk} (u:AV) (h:awp P ro N κ c (CS.st ⟨m,env',rs',ms⟩) Q)
  (hk:lkr rs k=some B:=by simp only [Zai,Zeu,fzE,fzA,fzR,fzB,set1,nbeq,reduceEqDiff,decide_true,decide_false,↓reduceIte,reduceIte,cond_true,cond_false,List.take_length,Option.some.injEq];rfl) (hu:fzVP B u:=by first|exact rfl|(refine ⟨?_,rfl⟩;first|rfl|(intros;rfl))) (he:fzE k u env=env':=by simp only [Zai,Zeu,fzE,fzA,fzR,fzB,set1,nbeq,reduceEqDiff,decide_true,decide_false,↓reduceIte,reduceIte,cond_true,cond_false,List.take_length,Option.some.injEq];rfl) (hr:fzR k u rs=rs':=by simp only [Zai,Zeu,fzE,fzA,fzR,fzB,set1,nbeq,reduceEqDiff,decide_true,decide_false,↓reduceIte,reduceIte,cond_true,cond_false,List.take_length,Option.some.injEq];rfl):awp P ro N κ c (CS.st ⟨m,env,rs,ms⟩) Q:=awp_fzN k u hk hu he hr h
theorem awpL_callH {o:Oper} {x:Operand} {xs:List Operand} {ts:Array TypeId} {f m:Nat} {caps:AV} {env:List (Nat × AV)} {l:List (Nat × Option Blk)} {ms:List Nat} {kk:List Nat} (hk:KK kk) {args:List AV} {rin:List (Nat × Option Blk)} {Q0:GR→Prop} {Q:Exit→St→Prop}
  (hS:FG P f args rin kk.length Q0)
  (ho:o.op=.call ⟨.value x,xs.toArray,ts⟩) (hgd:o.guard.isNone=true) (hd:Zdq N [o]=true) (hf:opv (lke env) x=.fn f caps) (hpc:properL caps=true)
  (hargs:appL (ofL (opv (lke env)) xs) caps=ren (rhoC kk m) (mkL args)) (hmen:men (ltK kk.length) (mkL args)=true) (hkk:kkOK m kk=true) (hκ:Nat.ble κ m=true)
  (hrin:rinR kk m l rin)
  (next:∀ gm gv gr,Q0 ⟨gm,gv,gr⟩→∀ m' e' l',(m+(gm - kk.length)=m'∧putE o.dst (ren (rhoC kk m) gv) env=e'∧outR kk m gr l=l')→Q .normal (CS.st ⟨m',e',l',ms⟩)):awpL P ro N κ [o] (CS.st ⟨m,env,l,ms⟩) Q:=Zim kk hS ho hgd hd hf hpc hargs hmen hkk hκ hrin next
end
theorem gCo {f:Nat} {args:List AV} {rin:List (Nat × Option Blk)} {Q0:GR→Prop} {X R G:Prop} (kk:List Nat) (fg:FG Tryz.prog f args rin kk.length Q0) (x:Hd X) (r:R) (t:KK kk→FG Tryz.prog f args rin kk.length Q0→Hd X→R→G:=by
 intro hk fg x r
 refine awpL_callH hk fg rfl rfl rfl rfl rfl rfl rfl rfl rfl (by simp only [rinR,rhoC,zE,evp,evx,ev1,evLoad,evStore,evBin,evIf,Zac,forall_const,z38,tb,reduceAdd,reduceSub,reduceMul,reduceEqDiff,reduceLeDiff,reduceLT,Nat.reduceBEq,Nat.reduceBNe,↓reduceIte,reduceIte,x.h]) ?_
 exact r
 first|done|fail):G:=t trivial fg x r
theorem gCf {X A B R G:Prop} (hq:A) (h:B) (x:Hd X) (r:R) (t:A→B→Hd X→R→G:=by
 intro hq h x r
 simp only [GR.mk.injEq] at hq
 obtain ⟨rfl,rfl,rfl⟩:=hq
 simp only [rhoC,outR,renR,dels,zE,evp,evx,ev1,evLoad,evStore,evBin,evIf,Zac,forall_const,z38,tb,reduceAdd,reduceSub,reduceMul,reduceEqDiff,reduceLeDiff,reduceLT,Nat.reduceBEq,Nat.reduceBNe,↓reduceIte,reduceIte,x.h] at h
 obtain ⟨rfl,rfl,rfl⟩:=h
 refine Zaf ?_
 exact r
 first|done|fail):G:=t hq h x r
theorem gCl {f:Nat} {args:List AV} {rin:List (Nat × Option Blk)} {Q0:GR→Prop} {X R G:Prop} (kk:List Nat) (fg:FG Tryz.prog f args rin kk.length Q0) (x:Hd X) (r:R) (t:KK kk→FG Tryz.prog f args rin kk.length Q0→Hd X→R→G:=by
 intro hk fg x r
 refine awpL_callH hk fg rfl rfl rfl rfl rfl rfl rfl rfl rfl (by simp only [rinR,rhoC,zE,evp,evx,ev1,evLoad,evStore,evBin,evIf,Zac,forall_const,z38,tb,reduceAdd,reduceSub,reduceMul,reduceEqDiff,reduceLeDiff,reduceLT,Nat.reduceBEq,Nat.reduceBNe,↓reduceIte,reduceIte,x.h]) ?_
 intro gm gv gr hq m' e' l' h
 simp only [GR.mk.injEq] at hq
 obtain ⟨rfl,rfl,rfl⟩:=hq
 simp only [rhoC,outR,renR,dels,zE,evp,evx,ev1,evLoad,evStore,evBin,evIf,Zac,forall_const,z38,tb,reduceAdd,reduceSub,reduceMul,reduceEqDiff,reduceLeDiff,reduceLT,Nat.reduceBEq,Nat.reduceBNe,↓reduceIte,reduceIte,x.h] at h
 obtain ⟨rfl,rfl,rfl⟩:=h
 refine Zaf ?_
 exact r
 first|done|fail):G:=t trivial fg x r
open Go
structure Gm where
 own:List Int
 pri:List Int
 nxt:List (List Int)
def gmA (g:Gm):AV:=.agg (.cons (.roI g.own) (.cons (.roI g.pri) (.cons (.roII g.nxt) .nil)))
theorem noSp : SpOK Tryz.prog (fun _=>none):=fun f S h=>by cases h
open Go
def tot (x:List (List Int)) (i:Nat):Int:=((x.take i).map fun l=>(l.length:Int)).sum
def few (n m:Int) (g:Gm):Bool := !(decide (n < (g.own.length:Int)) || decide (n < (g.pri.length:Int)) || decide (n < (g.nxt.length:Int))) && decide (tot g.nxt g.nxt.length≤m)
def fewS : Spec
 |[.int .i64 n,.int .i64 m,.agg (.cons (.roI o) (.cons (.roI p) (.cons (.roII x) .nil)))]=>some ⟨n≤1000,.bool (few n m ⟨o,p,x⟩),none⟩
 |_=>none
theorem tot_succ {x:List (List Int)} {i:Nat} (h:i < x.length):tot x (i+1)=tot x i+(x.getD i []).length:=by
 unfold tot
 rw [List.take_add_one,List.getElem?_eq_getElem h]
 rw [List.map_append,List.sum_append]
 simp [List.getD_eq_getElem?_getD,List.getElem?_eq_getElem h]
theorem tot_le {x:List (List Int)} (hx:∀ j,j < x.length→(x.getD j []).length≤lim):∀ i,i≤x.length→0≤tot x i∧tot x i≤i * (lim:Int):=by
 intro i
 induction i with
 |zero=>intro _;simp [tot]
 |succ i ih =>
  intro hi
  have:=ih (by omega)
  have h2:=hx i (by omega)
  rw [tot_succ (by omega)]
  push_cast
  rw [Int.add_mul]
  omega
set_option maxRecDepth 4000 in
set_option maxHeartbeats 4000000 in
theorem few_ok : Zcn Tryz.prog 4 fewS:=by
 refine Zaw htb (fn:=Tryz.f4) (by kernel_rfl) (by kernel_rfl) rfl (fun args r hS=>?_) (fun args r hS hob hl=>?_)
 ·unfold fewS at hS;split at hS<;>first|(cases hS;done)|(cases hS;exact Nat.le_of_ble_eq_true rfl)
 unfold fewS at hS
 split at hS
 case h_2=>cases hS
 rename_i n m o p x
 simp only [Option.some.injEq] at hS
 subst hS
 simp only [lenP,mkL,lim] at hl
 dsimp only at hob
 repeat' first|exact gE|refine gS noSp x0 [] ?_|refine gO noSp x0 [] ?_ ?_|refine gC ?_ ?_<;>intro hb
 ·refine Zab rfl rfl (Zae rfl ?_ rfl)
  show AV.bool false=AV.bool _
  simp [few];omega
 ·obtain ⟨_,_,⟨_,_,⟨hx,hxx⟩,_⟩,_⟩:=hl
  refine Zag (τ:=Nat) (fun i=>i≤x.length) (fun i=>⟨22,[(32,.int .i64 i),(7,.int .i64 (tot x i)),(30,.roII x),(31,.int .i64 x.length),(0,.int .i64 n),(1,.int .i64 m),(5,.rop (.agg (.cons (.roI o) (.cons (.roI p) (.cons (.roII x) .nil)))))],[],[]⟩) (fun i=>x.length - i) 0 [] ⟨rfl,by simp [zE,evp,evx,ev1,evLoad,evStore,evBin,evIf,Zac,forall_const,z38,tb,reduceAdd,reduceSub,reduceMul,reduceEqDiff,reduceLeDiff,reduceLT,Nat.reduceBEq,Nat.reduceBNe,↓reduceIte,reduceIte,tot],by simp only [zE,evp,evx,ev1,evLoad,evStore,evBin,evIf,Zac,forall_const,z38,tb,reduceAdd,reduceSub,reduceMul,reduceEqDiff,reduceLeDiff,reduceLT,Nat.reduceBEq,Nat.reduceBNe,↓reduceIte,reduceIte]⟩ (by omega) ?_
  intro i hi
  have ht:=tot_le hxx i hi
  simp only [lim] at ht
  repeat' first|exact gE|refine gS noSp x0 [] ?_|refine gO noSp x0 [] ?_ ?_|refine gC ?_ ?_<;>intro hb
  ·have h1:=hxx i (by omega)
   constructor<;>omega
  ·refine back (i+1) [] ?_ (by omega) (by omega)
   first|exact leZ x0|refine leA x0 ?_|refine leB x0 ?_ ?_
   rw [tot_succ (by omega)]
  ·refine Zab rfl rfl (Zae rfl ?_ rfl)
   show AV.bool (decide (tot x i≤m))=AV.bool _
   have:i=x.length:=by omega
   subst this
   simp [few];omega
def listS : Spec
 |[.roI a,.roI b]=>some ⟨True,.bool (decide (a=b)),none⟩
 |_=>none
theorem ext0 {a b:List Int} (h1:a.length=b.length) (h2:∀ j,j < a.length→a.getD j 0=b.getD j 0):a=b:=by
 refine List.ext_getElem h1 fun j hj hj'=>?_
 have:=h2 j hj
 simpa [List.getD_eq_getElem?_getD,hj,hj'] using this
set_option maxRecDepth 4000 in
set_option maxHeartbeats 4000000 in
theorem list_ok : Zcn Tryz.prog 39 listS:=by
 refine Zaw htb (fn:=Tryz.f39) (by kernel_rfl) (by kernel_rfl) rfl (fun args r hS=>?_) (fun args r hS hob hl=>?_)
 ·unfold listS at hS;split at hS<;>first|(cases hS;done)|(cases hS;exact Nat.le_of_ble_eq_true rfl)
 unfold listS at hS
 split at hS
 case h_2=>cases hS
 rename_i a b
 simp only [Option.some.injEq] at hS
 subst hS
 simp only [lenP,mkL,lim] at hl
 dsimp only at hob
 repeat' first|exact gE|refine gS noSp x0 [] ?_|refine gO noSp x0 [] ?_ ?_|refine gC ?_ ?_<;>intro hb
 ·refine Zab rfl rfl (Zae rfl ?_ rfl)
  show AV.bool false=AV.bool (decide (a=b))
  rw [decide_eq_false (by rintro rfl;exact hb rfl)]
 ·have hlen:a.length=b.length:=by omega
  refine Zag (τ:=Nat) (fun i=>i≤a.length∧∀ j,j < i→a.getD j 0=b.getD j 0) (fun i=>⟨9,[(13,.int .i64 i),(12,.int .i64 a.length),(0,.roI a),(1,.roI b)],[],[]⟩) (fun i=>a.length - i) 0 [] ⟨rfl,by simp [zE,evp,evx,ev1,evLoad,evStore,evBin,evIf,Zac,forall_const,z38,tb,reduceAdd,reduceSub,reduceMul,reduceEqDiff,reduceLeDiff,reduceLT,Nat.reduceBEq,Nat.reduceBNe,↓reduceIte,reduceIte],by simp only [zE,evp,evx,ev1,evLoad,evStore,evBin,evIf,Zac,forall_const,z38,tb,reduceAdd,reduceSub,reduceMul,reduceEqDiff,reduceLeDiff,reduceLT,Nat.reduceBEq,Nat.reduceBNe,↓reduceIte,reduceIte]⟩ ⟨by omega,by omega⟩ ?_
  rintro i ⟨hi,hj⟩
  repeat' first|exact gE|refine gS noSp x0 [] ?_|refine gO noSp x0 [] ?_ ?_|refine gC ?_ ?_<;>intro hb
  ·refine Zab rfl rfl (Zae rfl ?_ rfl)
   show AV.bool false=AV.bool (decide (a=b))
   rw [decide_eq_false (by rintro rfl;exact hb rfl)]
  ·refine back (i+1) [] ?_ ⟨by omega,fun j hj'=>?_⟩ (by omega)
   ·first|exact leZ x0|refine leA x0 ?_|refine leB x0 ?_ ?_
   ·rcases Nat.lt_succ_iff_lt_or_eq.1 hj' with h|rfl
    ·exact hj j h
    ·exact hb
  ·refine Zab rfl rfl (Zae rfl ?_ rfl)
   show AV.bool true=AV.bool (decide (a=b))
   rw [decide_eq_true (ext0 hlen fun j hj'=>hj j (by omega))]
open Go
def idxI (a:List Int) (v:Int):Int:=if v∈a then (a.idxOf v:Int) else -1
def indexS : Spec
 |[.roI a,.int .i64 v]=>some ⟨True,.int .i64 (idxI a v),none⟩
 |_=>none
def containsS : Spec
 |[.roI a,.int .i64 v]=>some ⟨True,.bool (decide (v∈a)),none⟩
 |_=>none
theorem not_mem_of {a:List Int} {v:Int} (h:∀ j,j < a.length→¬ v=a.getD j 0):v ∉ a:=fun hm=>by
 obtain ⟨j,hj,e⟩:=List.getElem_of_mem hm
 exact h j hj (by simp [List.getD_eq_getElem?_getD,hj,e])
theorem getD_mem {a:List Int} {j:Nat} (h:j < a.length):a.getD j 0∈a:=by simp [List.getD_eq_getElem?_getD,h]
theorem idxOf_first {v:Int}:∀ {a:List Int} {i:Nat},i < a.length→v=a.getD i 0→(∀ j,j < i→¬ v=a.getD j 0)→a.idxOf v=i:=by
 intro a
 induction a with
 |nil=>intro i hi;simp at hi
 |cons x t ih =>
  intro i hi hv h
  cases i with
  |zero =>
   have:v=x:=by simpa using hv
   subst this;simp
  |succ i =>
   have hne:x≠v:=fun e=>h 0 (by omega) (by simp [e])
   rw [List.idxOf_cons,show (x == v)=false from by simp [hne],cond_false,ih (by simpa using hi) (by simpa using hv) (fun j hj=>by have:=h (j+1) (by omega);simpa using this)]
set_option maxRecDepth 4000 in
set_option maxHeartbeats 4000000 in
theorem index_ok : Zcn Tryz.prog 48 indexS:=by
 refine Zaw htb (fn:=Tryz.f48) (by kernel_rfl) (by kernel_rfl) rfl (fun args r hS=>?_) (fun args r hS hob hl=>?_)
 ·unfold indexS at hS;split at hS<;>first|(cases hS;done)|(cases hS;exact Nat.le_of_ble_eq_true rfl)
 unfold indexS at hS
 split at hS
 case h_2=>cases hS
 rename_i a v
 simp only [Option.some.injEq] at hS
 subst hS
 simp only [lenP,mkL,lim] at hl
 dsimp only at hob
 repeat' first|exact gE|refine gS noSp x0 [] ?_|refine gO noSp x0 [] ?_ ?_|refine gC ?_ ?_<;>intro hb
 refine Zag (τ:=Nat) (fun i=>i≤a.length∧∀ j,j < i→¬ v=a.getD j 0) (fun i=>⟨4,[(8,.int .i64 i),(7,.int .i64 a.length),(0,.roI a),(1,.int .i64 v)],[],[]⟩) (fun i=>a.length - i) 0 [] ⟨rfl,by simp [zE,evp,evx,ev1,evLoad,evStore,evBin,evIf,Zac,forall_const,z38,tb,reduceAdd,reduceSub,reduceMul,reduceEqDiff,reduceLeDiff,reduceLT,Nat.reduceBEq,Nat.reduceBNe,↓reduceIte,reduceIte],by simp only [zE,evp,evx,ev1,evLoad,evStore,evBin,evIf,Zac,forall_const,z38,tb,reduceAdd,reduceSub,reduceMul,reduceEqDiff,reduceLeDiff,reduceLT,Nat.reduceBEq,Nat.reduceBNe,↓reduceIte,reduceIte]⟩ ⟨by omega,by omega⟩ ?_
 rintro i ⟨hi,hj⟩
 repeat' first|exact gE|refine gS noSp x0 [] ?_|refine gO noSp x0 [] ?_ ?_|refine gC ?_ ?_<;>intro hb
 ·refine Zab rfl rfl (Zae rfl ?_ rfl)
  show AV.int .i64 i=AV.int .i64 (idxI a v)
  rw [idxI,if_pos (hb▸getD_mem (by omega)),idxOf_first (by omega) hb hj]
 ·refine back (i+1) [] ?_ ⟨by omega,fun j hj'=>?_⟩ (by omega)
  ·first|exact leZ x0|refine leA x0 ?_|refine leB x0 ?_ ?_
  ·rcases Nat.lt_succ_iff_lt_or_eq.1 hj' with h|rfl
   ·exact hj j h
   ·exact hb
 ·refine Zab rfl rfl (Zae rfl ?_ rfl)
  show AV.int .i64 (-1)=AV.int .i64 (idxI a v)
  rw [idxI,if_neg (not_mem_of fun j hj'=>hj j (by omega))]
def spIdx : Nat→Option Spec
 |48=>some indexS
 |_=>none
theorem spIdx_ok : SpOK Tryz.prog spIdx:=by
 intro f S h
 unfold spIdx at h
 split at h
 ·cases h;exact index_ok
 ·cases h
def xW12b_1 := Hd.mk (And.intro @spIdx.eq_1<|@indexS.eq_1)
set_option maxRecDepth 4000 in
set_option maxHeartbeats 4000000 in
theorem Zhe : Zcn Tryz.prog 27 containsS:=by
 refine Zaw htb (fn:=Tryz.f27) (by kernel_rfl) (by kernel_rfl) rfl (fun args r hS=>?_) (fun args r hS hob hl=>?_)
 ·unfold containsS at hS;split at hS<;>first|(cases hS;done)|(cases hS;exact Nat.le_of_ble_eq_true rfl)
 unfold containsS at hS
 split at hS
 case h_2=>cases hS
 rename_i a v
 simp only [Option.some.injEq] at hS
 subst hS
 simp only [lenP,mkL,lim] at hl
 dsimp only at hob
 repeat' first|exact gE|refine gS spIdx_ok xW12b_1 [] ?_|refine gO spIdx_ok xW12b_1 [] ?_ ?_|refine gC ?_ ?_<;>intro hb
 ·refine Zab rfl rfl (Zae rfl ?_ rfl)
  show AV.bool (decide (0≤idxI a v))=AV.bool (decide (v∈a))
  by_cases hm:v∈a
  ·rw [idxI,if_pos hm];simp [hm]
  ·rw [idxI,if_neg hm];simp [hm]
def cloneS : Spec
 |[.roI a]=>some ⟨a.length≤1000000000,.roI a,none⟩
 |_=>none
set_option maxRecDepth 4000 in
set_option maxHeartbeats 4000000 in
theorem clone_ok : Zcn Tryz.prog 59 cloneS:=by
 refine Zaw htb (fn:=Tryz.f59) (by kernel_rfl) (by kernel_rfl) rfl (fun args r hS=>?_) (fun args r hS hob hl=>?_)
 ·unfold cloneS at hS;split at hS<;>first|(cases hS;done)|(cases hS;exact Nat.le_of_ble_eq_true rfl)
 unfold cloneS at hS
 split at hS
 case h_2=>cases hS
 rename_i a
 simp only [Option.some.injEq] at hS
 subst hS
 simp only [lenP,mkL,lim] at hl
 dsimp only at hob
 refine Zea ?_
 refine gR noSp x0 ?_ ?_
 ·trivial
 refine Zaf (Zea (awp_nilq (xs:=a) (by kernel_rfl:Tryz.prog.underlying 22=some (.slice 3)) rfl rfl rfl rfl rfl ?_ ?_))
 ·rintro rfl
  refine Zea ?_
  refine gR noSp x0 ?_ ?_
  ·trivial
  refine Zaf (awp_see 2 (.roI []) rfl (fun Z w ν y h=>see_nil h) ?_)
  repeat' first|exact gE|refine gS noSp x0 [] ?_|refine gO noSp x0 [] ?_ ?_|refine gC ?_ ?_<;>intro hb
  refine Zab rfl rfl (Zae rfl ?_ rfl)
  rfl
 ·refine Zja (Zaf (Zea ?_))
  refine gRa noSp x0 (fun i=>Nat.beq i 0) ?_ ?_
  ·refine Ob.mk ?_;omega
  refine Zaf ?_
  refine Zbb 3 (.roI a) ?_
  repeat' first|exact gE|refine gS noSp x0 [] ?_|refine gO noSp x0 [] ?_ ?_|refine gC ?_ ?_<;>intro hb
  refine Zab rfl rfl (Zae rfl ?_ rfl)
  rfl
open Go
def Gm.n (g:Gm):Nat:=g.own.length
def Gm.o (g:Gm) (v:Nat):Int:=g.own.getD v 0
def Gm.p (g:Gm) (v:Nat):Int:=g.pri.getD v 0
def Gm.x (g:Gm) (v:Nat):List Int:=g.nxt.getD v []
def Zow (n:Nat) (l:List Int) (i:Nat):Prop:=0≤l.getD i 0∧l.getD i 0 < n∧(0 < i→l.getD (i - 1) 0 < l.getD i 0)
def Zox (g:Gm) (v:Nat):Prop:=(0≤g.o v∧g.o v≤1∧0≤g.p v∧g.p v≤60∧1≤(g.x v).length∧(g.x v).length≤64)∧∀ i,i < (g.x v).length→Zow g.n (g.x v) i
def Zc1 (g:Gm):Prop:=g.n≤20000∧g.pri.length=g.n∧g.nxt.length=g.n∧∀ v,v < g.n→Zox g v
open Classical in
noncomputable def Zau (g:Gm):Bool:=decide (Zc1 g)
noncomputable def validS : Spec
 |[.agg (.cons (.roI o) (.cons (.roI p) (.cons (.roII x) .nil)))]=>some ⟨True,.bool (Zau ⟨o,p,x⟩),none⟩
 |_=>none
theorem Zeq {g:Gm} (h:Zc1 g):Zau g=true:=by simp [Zau,h]
theorem Zgb {g:Gm} (h:¬ Zc1 g):Zau g=false:=by simp [Zau,h]
theorem validB_iff {g:Gm}:Zau g=true↔Zc1 g:=by simp [Zau]
set_option maxRecDepth 4000 in
set_option maxHeartbeats 4000000 in
theorem Zgo : Zcn Tryz.prog 13 validS:=by
 refine Zaw htb (fn:=Tryz.f13) (by kernel_rfl) (by kernel_rfl) rfl (fun args r hS=>?_) (fun args r hS hob hl=>?_)
 ·unfold validS at hS;split at hS<;>first|(cases hS;done)|(cases hS;exact Nat.le_of_ble_eq_true rfl)
 unfold validS at hS
 split at hS
 case h_2=>cases hS
 rename_i o p x
 simp only [Option.some.injEq] at hS
 subst hS
 simp only [lenP,mkL,lim] at hl
 dsimp only at hob
 repeat' first|exact gE|refine gS noSp x0 [] ?_|refine gO noSp x0 [] ?_ ?_|refine gC ?_ ?_<;>intro hb
 ·refine Zab rfl rfl (Zae rfl ?_ rfl)
  show AV.bool false=AV.bool _
  rw [Zgb]
  rintro ⟨h1,h2,h3,_⟩
  simp only [Gm.n] at h1 h2 h3
  omega
 ·have ho:o.length≤20000:=by omega
  have hp:p.length=o.length:=by omega
  have hx:x.length=o.length:=by omega
  clear hb
  refine Zag (τ:=Nat) (fun i=>i≤o.length∧∀ v,v < i→Zox ⟨o,p,x⟩ v) (fun i=>⟨24,[(27,.int .i64 i),(26,.int .i64 o.length),(3,.int .i64 o.length),(1,.rop (.agg (.cons (.roI o) (.cons (.roI p) (.cons (.roII x) .nil)))))],[],[]⟩) (fun i=>o.length - i) 0 [] ⟨rfl,by simp [zE,evp,evx,ev1,evLoad,evStore,evBin,evIf,Zac,forall_const,z38,tb,reduceAdd,reduceSub,reduceMul,reduceEqDiff,reduceLeDiff,reduceLT,Nat.reduceBEq,Nat.reduceBNe,↓reduceIte,reduceIte],by simp only [zE,evp,evx,ev1,evLoad,evStore,evBin,evIf,Zac,forall_const,z38,tb,reduceAdd,reduceSub,reduceMul,reduceEqDiff,reduceLeDiff,reduceLT,Nat.reduceBEq,Nat.reduceBNe,↓reduceIte,reduceIte]⟩ ⟨by omega,by omega⟩ ?_
  rintro v ⟨hv,hj⟩
  repeat' first|exact gE|refine gS noSp x0 [] ?_|refine gO noSp x0 [] ?_ ?_|refine gC ?_ ?_<;>intro hb
  ·refine Zab rfl rfl (Zae rfl ?_ rfl)
   show AV.bool false=AV.bool _
   rw [Zgb]
   rintro ⟨_,_,_,h4⟩
   obtain ⟨⟨a1,a2,a3,a4,a5,a6⟩,_⟩:=h4 v (by simp only [Gm.n];omega)
   simp only [Gm.o,Gm.p,Gm.x] at a1 a2 a3 a4 a5 a6
   omega
  ·rename_i hb1 hb2
   refine Zag (τ:=Nat) (fun i=>i≤(x.getD v []).length∧∀ k,k < i→Zow o.length (x.getD v []) k) (fun i=>⟨82,[(84,.int .i64 i),(83,.int .i64 (x.getD v []).length),(82,.roI (x.getD v [])),(4,.int .i64 v),(27,.int .i64 v),(26,.int .i64 o.length),(3,.int .i64 o.length),(1,.rop (.agg (.cons (.roI o) (.cons (.roI p) (.cons (.roII x) .nil)))))],[],[]⟩) (fun i=>(x.getD v []).length - i) 0 [] ⟨rfl,by simp [zE,evp,evx,ev1,evLoad,evStore,evBin,evIf,Zac,forall_const,z38,tb,reduceAdd,reduceSub,reduceMul,reduceEqDiff,reduceLeDiff,reduceLT,Nat.reduceBEq,Nat.reduceBNe,↓reduceIte,reduceIte],by simp only [zE,evp,evx,ev1,evLoad,evStore,evBin,evIf,Zac,forall_const,z38,tb,reduceAdd,reduceSub,reduceMul,reduceEqDiff,reduceLeDiff,reduceLT,Nat.reduceBEq,Nat.reduceBNe,↓reduceIte,reduceIte]⟩ ⟨by omega,by omega⟩ ?_
   rintro i ⟨hi,hk⟩
   repeat' first|exact gE|refine gS noSp x0 [] ?_|refine gO noSp x0 [] ?_ ?_|refine gC ?_ ?_<;>intro hb
   ·refine Zab rfl rfl (Zae rfl ?_ rfl)
    show AV.bool false=AV.bool _
    rw [Zgb]
    rintro ⟨_,_,_,h4⟩
    obtain ⟨_,h5⟩:=h4 v (by simp only [Gm.n];omega)
    obtain ⟨a1,a2,a3⟩:=h5 i (by simp only [Gm.x];omega)
    simp only [Gm.x,Gm.n] at a1 a2 a3
    rcases hb with (h|h)|⟨h,h'⟩
    ·omega
    ·omega
    ·have:=a3 (by omega)
     rw [show ((i:Int) - 1).toNat=i - 1 from by omega] at h'
     exact absurd this (Int.not_lt.2 h')
   ·rename_i hb3
    refine back (i+1) [] ?_ ⟨by omega,fun k hk'=>?_⟩ (by omega)
    ·first|exact leZ x0|refine leA x0 ?_|refine leB x0 ?_ ?_
    ·rcases Nat.lt_succ_iff_lt_or_eq.1 hk' with h|rfl
     ·exact hk k h
     ·refine ⟨by omega,by omega,fun h0=>?_⟩
      rw [show ((k:Int) - 1).toNat=k - 1 from by omega] at hb
      omega
   ·refine back (v+1) [] ?_ ⟨by omega,fun u hu=>?_⟩ (by omega)
    ·first|exact leZ x0|refine leA x0 ?_|refine leB x0 ?_ ?_
    ·rcases Nat.lt_succ_iff_lt_or_eq.1 hu with h|rfl
     ·exact hj u h
     ·refine ⟨⟨?_,?_,?_,?_,?_,?_⟩,fun k hk'=>hk k (by simp only [Gm.x] at hk';omega)⟩<;>simp only [Gm.o,Gm.p,Gm.x]<;>omega
  ·refine Zab rfl rfl (Zae rfl ?_ rfl)
   show AV.bool true=AV.bool _
   rw [Zeq]
   exact ⟨ho,hp,hx,fun v hv'=>hj v (by simp only [Gm.n] at hv';omega)⟩
end Go.Proofs.YtjcmlflljibikaaGreatDoor.Cal
namespace Go.Proofs.YtjcmlflljibikaaGreatDoor.Pl
theorem Zcq : ∀ (n:Nat) (l:List Nat),l.Nodup→(∀ x,x∈l→x < n)→l.length≤n:=by
 intro n
 induction n with
 |zero=>intro l _ h;cases l with
  |nil=>simp
  |cons a t=>exact absurd (h a List.mem_cons_self) (Nat.not_lt_zero _)
 |succ n ih =>
  intro l hn h
  have h1:=ih (l.filter fun x=>x != n) (hn.filter _) (fun x hx=>by
   rw [List.mem_filter] at hx
   have:=h x hx.1
   have h2:x≠n:=by simpa using hx.2
   omega)
  have h2:l.length≤(l.filter fun x=>x != n).length+1:=by
   clear ih h h1
   induction l with
   |nil=>simp
   |cons a t ih =>
    rw [List.nodup_cons] at hn
    by_cases ha:a=n
    ·subst ha
     have:(t.filter fun x=>x != a)=t:=List.filter_eq_self.2 fun x hx=>by
      have:x≠a:=fun e=>hn.1 (e▸hx)
      simpa using this
     rw [List.filter_cons]
     simp [this]
    ·rw [List.filter_cons]
     have:(a != n)=true:=by simpa using ha
     rw [if_pos this]
     have:=ih hn.2
     simp only [List.length_cons]
     omega
  omega
def orb (f:Nat→Nat) (s:Nat):Nat→Nat
 |0=>s
 |k+1=>f (orb f s k)
def Znp (f:Nat→Nat) (s k:Nat):Prop:=∀ i j,i < j→j < k→orb f s i≠orb f s j
theorem Zla {f:Nat→Nat} {s n k:Nat} (hn:∀ j,orb f s j < n) (h:Znp f s k):k≤n:=by
 have h1:=Zcq n ((List.range k).map (orb f s)) (by
  rw [List.nodup_iff_pairwise_ne,List.pairwise_map]
  refine List.Pairwise.imp_of_mem ?_ (List.pairwise_lt_range (n:=k))
  intro a b ha hb hab
  exact h a b hab (List.mem_range.1 hb)) (fun x hx=>by
  obtain ⟨j,_,rfl⟩:=List.mem_map.1 hx
  exact hn j)
 simpa using h1
theorem fresh_succ {f:Nat→Nat} {s k:Nat} (h:Znp f s k) (h2:∀ i,i < k→orb f s i≠orb f s k):Znp f s (k+1):=fun i j hij hj=>by
 rcases Nat.lt_succ_iff_lt_or_eq.1 hj with h'|rfl
 ·exact h i j hij h'
 ·exact h2 i hij
def Zl8 (f:Nat→Nat) (s L k:Nat):Prop:=Znp f s L∧k < L∧orb f s L=orb f s k
theorem again_unique {f:Nat→Nat} {s L k L' k':Nat} (h:Zl8 f s L k) (h':Zl8 f s L' k'):L=L'∧k=k':=by
 obtain ⟨h1,h2,h3⟩:=h
 obtain ⟨h1',h2',h3'⟩:=h'
 have hL:L=L':=by
  rcases Nat.lt_trichotomy L L' with hl|hl|hl
  ·exact absurd h3.symm (h1' k L h2 hl)
  ·exact hl
  ·exact absurd h3'.symm (h1 k' L' h2' hl)
 subst hL
 refine ⟨rfl,?_⟩
 rcases Nat.lt_trichotomy k k' with hk|hk|hk
 ·exact absurd (h3.symm.trans h3') (h1 k k' hk h2')
 ·exact hk
 ·exact absurd (h3'.symm.trans h3) (h1 k' k hk h2)
theorem again_ex {f:Nat→Nat} {s n:Nat} (hn:∀ j,orb f s j < n):∃ L k,Zl8 f s L k∧L≤n:=by
 have key:∀ m,m≤n+1→Znp f s m∨∃ L k,Zl8 f s L k∧L < m:=by
  intro m
  induction m with
  |zero=>intro _;exact .inl fun i j _ hj=>absurd hj (Nat.not_lt_zero _)
  |succ m ih =>
   intro hm
   rcases ih (by omega) with h|⟨L,k,h,hl⟩
   ·by_cases hx:∃ i,i < m∧orb f s i=orb f s m
    ·obtain ⟨i,hi,e⟩:=hx
     exact .inr ⟨m,i,⟨h,hi,e.symm⟩,by omega⟩
    ·exact .inl (fresh_succ h fun i hi e=>hx ⟨i,hi,e⟩)
   ·exact .inr ⟨L,k,h,by omega⟩
 rcases key (n+1) (Nat.le_refl _) with h|⟨L,k,h,hl⟩
 ·have:=Zla hn h;omega
 ·exact ⟨L,k,h,by omega⟩
end Go.Proofs.YtjcmlflljibikaaGreatDoor.Pl
namespace Go.Proofs.YtjcmlflljibikaaGreatDoor.Cal
theorem Zff {α:Type} {x:List α} {i:Nat} {d:α} (h:i < x.length):x.take (i+1)=x.take i++[x.getD i d]:=by
 rw [List.take_add_one,List.getD_eq_getElem?_getD,List.getElem?_eq_getElem h];rfl
def mix {β:Type} (f h:Nat→β) (n i:Nat):List β:=(List.range n).map fun v=>if v < i then f v else h v
theorem Zfk {β:Type} {f h:Nat→β} {n i:Nat}:(mix f h n i).length=n:=by simp [mix]
theorem Zfj {β:Type} {f h:Nat→β} {n i:Nat}:(mix f h n i).set i (f i)=mix f h n (i+1):=by
 refine List.ext_getElem? fun j=>?_
 rw [List.getElem?_set]
 simp only [mix,List.getElem?_map,List.length_map,List.length_range]
 by_cases hj:j < n
 ·rw [List.getElem?_range hj]
  by_cases hij:i=j
  ·subst hij;simp [hj]
  ·rw [if_neg hij]
   simp only [Option.map_some,Option.some.injEq]
   by_cases h1:j < i
   ·rw [if_pos h1,if_pos (by omega)]
   ·rw [if_neg h1,if_neg (by omega)]
 ·rw [List.getElem?_eq_none (by simpa using hj)]
  by_cases hij:i=j
  ·subst hij;simp [hj]
  ·rw [if_neg hij];rfl
theorem Zk2 {β:Type} {f h:Nat→β} {n i:Nat} (e:f i=h i):mix f h n i=mix f h n (i+1):=by
 refine List.map_congr_left fun v hv=>?_
 by_cases h1:v < i
 ·rw [if_pos h1,if_pos (by omega)]
 ·by_cases h2:v=i
  ·subst h2;rw [if_neg h1,if_pos (by omega),e]
  ·rw [if_neg h1,if_neg (by omega)]
theorem mix_zero {β:Type} {f:Nat→β} {x:List β} {d:β}:mix f (fun v=>x.getD v d) x.length 0=x:=by
 refine List.ext_getElem (by simp [mix]) fun j h1 h2=>?_
 simp [mix,List.getD_eq_getElem?_getD,h2]
theorem Zfl {β:Type} {f h:Nat→β} {n:Nat}:mix f h n n=(List.range n).map f:=by
 refine List.map_congr_left fun v hv=>?_
 rw [if_pos (List.mem_range.1 hv)]
def kp (k:List Bool) (n:Nat):List Nat:=(List.range n).filter fun v=>k.getD v false
theorem Zmt {k:List Bool} {n:Nat}:kp k (n+1)=if k.getD n false=true then kp k n++[n] else kp k n:=by
 unfold kp
 rw [List.range_succ,List.filter_append]
 cases h:k.getD n false with
 |true=>rw [if_pos rfl];congr 1;simp only [List.filter_cons,h,List.filter_nil];rfl
 |false=>rw [if_neg (by decide)];simp only [List.filter_cons,h,List.filter_nil];exact List.append_nil _
theorem Zkb {k:List Bool} {n:Nat}:(kp k n).length≤n:=by
 have:=List.length_filter_le (fun v=>k.getD v false) (List.range n)
 rw [List.length_range] at this;exact this
end Go.Proofs.YtjcmlflljibikaaGreatDoor.Cal
