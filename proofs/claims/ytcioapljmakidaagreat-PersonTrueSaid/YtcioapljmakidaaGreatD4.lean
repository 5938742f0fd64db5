/- Part 4 of the proofs of the statements of this seat (a logic of pure contracts, the functions lowered, their contracts). No conditions. -/
import Derived.Test.YtcioapljmakidaaGreatD3
import Derived.Test.YtcioapljmakidaaGreatChecked
import Derived.KernelRfl
namespace Go.Px
open Go.Proofs
abbrev tm (n : Nat) : Operand := .tmp n
abbrev kc (n : Int) : Operand := .const (.int .i64 n)
abbrev ow (d : Nat) (l : LOp) : LOper := ⟨some d, none, l⟩
abbrev om (d x : Nat) : LOper := ⟨some d, none, .mov (.tmp x)⟩
abbrev oy (d g : Nat) (l : LOp) : LOper := ⟨some d, some (g, true), l⟩
abbrev oz (d g : Nat) (l : LOp) : LOper := ⟨some d, some (g, false), l⟩
set_option maxRecDepth 100000
theorem hmix : Tryz.prog.follows .mixedOrders = true := by kernel_rfl
def L15 : LCode :=
 (.seq
 (.ops [ow 1 (.box 29 (tm 0)), ow 2 (.mov (kc 0)), ow 3 (.mov (kc 0)), ow 4 (.mov (kc 0))])
 (.seq
 (.seq
 (.ops [ow 6 (.faddr 29 (tm 1) 0 0), ow 7 (.load 25 (tm 6) (some 3)), ow 8 (.call 49 [(tm 7)] 32), om 5 8, ow 9 (.extract (tm 5) 0), ow 10 (.extract (tm 5) 1), ow 11 (.extract (tm 5) 2), om 4 11])
 (.seq
 (.ops [om 12 4, ow 13 (.bin .neq 31 (tm 12) (kc 0))])
 (.ite (tm 13)
 (.seq
 (.ops [om 14 4, ow 2 (.mov (kc 1)), ow 3 (.mov (kc 0)), om 4 14]) .ret) .skip)))
 (.seq
 (.block 0
 (.seq
 (.ops [ow 16 (.faddr 29 (tm 1) 1 3), ow 17 (.load 3 (tm 16) none), ow 18 (.bslice 34 1 [(0, (tm 17))] 3 1 [(.int .i64 0)]), ow 19 (.call 50 [(kc 1), (kc 4), (tm 18)] 4), om 15 19])
 (.ite (tm 15)
 (.seq
 (.ops [ow 2 (.mov (kc 2)), ow 3 (.mov (kc 0)), ow 4 (.mov (kc 7))]) .ret)
 (.seq
 (.ops [ow 21 (.faddr 29 (tm 1) 2 4), ow 22 (.load 26 (tm 21) none), ow 23 (.len false 26 3 (tm 22)), ow 24 (.bin .gtr 3 (tm 23) (kc 5)), om 20 24])
 (.ite (tm 20)
 (.seq
 (.ops [ow 2 (.mov (kc 3)), ow 3 (.mov (kc 0)), ow 4 (.mov (kc 3))]) .ret) .skip)))))
 (.seq
 (.seq
 (.ops [ow 26 (.faddr 29 (tm 1) 2 4), ow 27 (.load 26 (tm 26) none), ow 28 (.mkfn (.func 52) [] [(tm 1)]), ow 29 (.call 51 [(tm 27), (tm 28)] 38), om 25 29, ow 30 (.extract (tm 25) 0), ow 31 (.extract (tm 25) 1), om 3 30, om 4 31])
 (.seq
 (.ops [om 32 4, ow 33 (.bin .neq 31 (tm 32) (kc 0))])
 (.ite (tm 33)
 (.seq
 (.ops [om 34 3, om 35 4, ow 2 (.mov (kc 3)), om 3 34, om 4 35]) .ret) .skip)))
 (.seq
 (.seq
 (.ops [ow 36 (.faddr 29 (tm 1) 3 5), ow 37 (.load 27 (tm 36) none), ow 38 (.len false 27 3 (tm 37)), ow 39 (.bin .gtr 3 (tm 38) (kc 4))])
 (.ite (tm 39)
 (.seq
 (.ops [ow 2 (.mov (kc 4)), ow 3 (.mov (kc 0)), ow 4 (.mov (kc 3))]) .ret) .skip))
 (.seq
 (.ops [ow 41 (.faddr 29 (tm 1) 3 5), ow 42 (.load 27 (tm 41) none), ow 43 (.mkfn (.func 55) [] [(tm 1)]), ow 44 (.call 54 [(tm 42), (tm 43)] 38), om 40 44, ow 45 (.extract (tm 40) 0), ow 46 (.extract (tm 40) 1), om 3 45, om 4 46])
 (.seq
 (.seq
 (.ops [om 47 4, ow 48 (.bin .neq 31 (tm 47) (kc 0))])
 (.ite (tm 48)
 (.seq
 (.ops [om 49 3, om 50 4, ow 2 (.mov (kc 4)), om 3 49, om 4 50]) .ret) .skip))
 (.seq
 (.ops [ow 2 (.mov (kc 0)), ow 3 (.mov (kc 0)), ow 4 (.mov (kc 0))]) .ret))))))))
theorem fn15 : FnOK Tryz.prog 15 51 [.tmp 2, .tmp 3, .tmp 4] L15 := ⟨Tryz.f15, Tryz.func15, by kernel_rfl, Tryz.ntmps15, by rw [Tryz.results15], by kernel_rfl⟩
def L17 : LCode :=
 (.seq
 (.ops [ow 1 (.box 29 (tm 0)), ow 2 (.alloc 34 [(.slice none 0 0)]), ow 3 (.alloc 3 [(.int .i64 0)]), ow 4 (.mov (kc 0))])
 (.seq
 (.ops [ow 8 (.load 29 (tm 1) (some 6)), ow 9 (.call 58 [(tm 8), (.func 59)] 88), om 7 9, ow 10 (.extract (tm 7) 0), ow 11 (.extract (tm 7) 1), om 5 10, om 4 11])
 (.seq
 (.seq
 (.ops [om 12 4, ow 13 (.bin .neq 31 (tm 12) (kc 0))])
 (.ite (tm 13)
 (.seq
 (.ops [om 14 4, ⟨none, none, .store 34 (tm 2) (.const (.slice none 0 0)) 1⟩, ⟨none, none, .store 3 (tm 3) (kc 0) 1⟩, om 4 14]) .ret) .skip))
 (.seq
 (.seq
 (.ops [om 15 5, ow 16 (.call 60 [(tm 15)] 92)])
 (.block 0
 (.rfun (tm 16) [17, 18]
 (.ops [ow 6 (.alloc 95 [(.int .i64 0), (.int .i64 0), (.int .i64 0), (.int .i64 0), (.int .i64 0), (.int .i64 0)]), ⟨none, none, .store 95 (tm 6) (tm 17) 6⟩])
 (.block 1
 (.seq
 (.ops [ow 19 (.load 3 (tm 3) none), ow 20 (.bin .add 3 (tm 19) (kc 1)), ⟨none, none, .store 3 (tm 3) (tm 20) 1⟩])
 (.seq
 (.ops [ow 21 (.load 3 (tm 3) none), ow 22 (.bin .eql 3 (tm 21) (kc 1))])
 (.ite (tm 22)
 (.seq
 (.ops [ow 23 (.faddr 29 (tm 1) 2 4), ow 24 (.load 26 (tm 23) none), ow 25 (.len false 26 3 (tm 24)), ow 26 (.mslice 34 (tm 25) (tm 25) 3 1 8 [(.int .i64 0)]), ⟨none, none, .store 34 (tm 2) (tm 26) 1⟩])
 (.dops [(ow 27 (.load 34 (tm 2) none), []), (ow 28 (.sliceA 95 (tm 6) none none none 6 1), []), (ow 29 (.copy 34 34 3 (tm 27) (tm 28) 3 1), [0, 1])])) .skip)))))))
 (.seq
 (.dops [(ow 30 (.load 34 (tm 2) none), []), (ow 31 (.load 3 (tm 3) none), []), (⟨none, none, .store 34 (tm 2) (tm 30) 1⟩, [0, 0]), (⟨none, none, .store 3 (tm 3) (tm 31) 1⟩, [1, 2, 0, 1, 2]), (ow 4 (.mov (kc 0)), [3, 0, 1, 2, 3])]) .ret)))))
theorem fn17 : FnOK Tryz.prog 17 32 [.cell 2 34, .cell 3 3, .tmp 4] L17 := ⟨Tryz.f17, Tryz.func17, by kernel_rfl, Tryz.ntmps17, by rw [Tryz.results17], by kernel_rfl⟩
def L19 : LCode :=
 (.seq
 (.ops [ow 4 (.mov (.const (.bool false)))])
 (.seq
 (.ops [om 5 0, ow 6 (.len false 34 3 (tm 5)), om 7 1, ow 8 (.len false 34 3 (tm 7)), ow 9 (.bin .eql 3 (tm 6) (tm 8)), om 10 9, oy 11 10 (.mov (tm 0)), oy 12 10 (.mov (tm 1)), oy 13 10 (.call 62 [(tm 11), (tm 12)] 4), oy 14 10 (.un .not (tm 13)), ow 15 (.pick (tm 10) (tm 14) (.const (.bool false))), om 16 15, oy 17 16 (.mov (tm 1)), oy 18 16 (.mov (tm 0)), oy 19 16 (.call 62 [(tm 17), (tm 18)] 4), oy 20 16 (.un .not (tm 19)), ow 21 (.pick (tm 16) (tm 20) (.const (.bool false))), om 4 21]) .ret))
theorem fn19 : FnOK Tryz.prog 19 22 [.tmp 4] L19 := ⟨Tryz.f19, Tryz.func19, by kernel_rfl, Tryz.ntmps19, by rw [Tryz.results19], by kernel_rfl⟩
def L20 : LCode :=
 (.seq
 (.ops [ow 3 (.box 29 (tm 0)), ow 4 (.box 3 (tm 1)), ow 5 (.box 3 (tm 2)), ow 6 (.mov (kc 0)), ow 7 (.mov (kc 0))])
 (.seq
 (.dops [(ow 14 (.load 29 (tm 3) (some 6)), []), (ow 15 (.load 29 (tm 3) (some 6)), []), (ow 16 (.load 3 (tm 4) none), []), (ow 17 (.load 3 (tm 5) none), []), (ow 18 (.call 63 [(tm 15), (tm 16), (tm 17)] 90), [1, 2, 3]), (ow 19 (.call 58 [(tm 14), (tm 18)] 88), [0, 4, 4]), (om 13 19, [5]), (ow 20 (.extract (tm 13) 0), [6]), (ow 21 (.extract (tm 13) 1), [6]), (om 8 20, [7, 5, 0, 1, 2, 3, 4, 5, 6, 7]), (om 9 21, [8, 9, 0, 1, 2, 3, 4, 5, 6, 7, 8, 9])])
 (.seq
 (.seq
 (.ops [om 22 9, ow 23 (.bin .neq 31 (tm 22) (kc 0))])
 (.ite (tm 23)
 (.seq
 (.ops [om 24 9, ow 6 (.mov (kc 0)), om 7 24]) .ret) .skip))
 (.seq
 (.ops [ow 10 (.alloc 3 [(.int .i64 0)]), ow 11 (.alloc 3 [(.int .i64 0)]), ⟨none, none, .store 3 (tm 10) (kc 0) 1⟩, ⟨none, none, .store 3 (tm 11) (kc 0) 1⟩])
 (.seq
 (.seq
 (.ops [om 25 8, ow 26 (.call 60 [(tm 25)] 92)])
 (.block 0
 (.rfun (tm 26) [27, 28]
 (.ops [ow 12 (.alloc 95 [(.int .i64 0), (.int .i64 0), (.int .i64 0), (.int .i64 0), (.int .i64 0), (.int .i64 0)]), ⟨none, none, .store 95 (tm 12) (tm 27) 6⟩])
 (.block 1
 (.seq
 (.ops [ow 29 (.load 3 (tm 11) none), ow 30 (.bin .add 3 (tm 29) (kc 1)), ⟨none, none, .store 3 (tm 11) (tm 30) 1⟩])
 (.seq
 (.dops [(ow 31 (.load 3 (tm 4) none), []), (ow 32 (.iaddrA 95 (tm 12) (tm 31) 6 1), [0]), (ow 33 (.load 3 (tm 32) none), [1]), (ow 34 (.load 3 (tm 5) none), []), (ow 35 (.iaddrA 95 (tm 12) (tm 34) 6 1), [3]), (ow 36 (.load 3 (tm 35) none), [4]), (ow 37 (.bin .eql 3 (tm 33) (tm 36)), [2, 5])])
 (.ite (tm 37)
 (.ops [ow 38 (.load 3 (tm 10) none), ow 39 (.bin .add 3 (tm 38) (kc 1)), ⟨none, none, .store 3 (tm 10) (tm 39) 1⟩]) .skip)))))))
 (.seq
 (.ops [ow 40 (.load 3 (tm 10) none), ow 41 (.load 3 (tm 11) none), ow 42 (.call 64 [(tm 40), (tm 41)] 3), om 6 42, ow 7 (.mov (kc 0))]) .ret))))))
theorem fn20 : FnOK Tryz.prog 20 43 [.tmp 6, .tmp 7] L20 := ⟨Tryz.f20, Tryz.func20, by kernel_rfl, Tryz.ntmps20, by rw [Tryz.results20], by kernel_rfl⟩
def L22 : LCode :=
 (.seq
 (.ops [ow 0 (.mov (.const (.bool false)))])
 (.seq
 (.ops [ow 33 (.call 67 [(kc 0)] 29), ow 34 (.call 67 [(kc 1)] 29), ow 35 (.call 67 [(kc 2)] 29), ow 1 (.alloc 29 [(.int .i64 0), (.slice none 0 0), (.slice none 0 0), (.int .i64 0), (.slice none 0 0), (.slice none 0 0)]), ow 2 (.alloc 29 [(.int .i64 0), (.slice none 0 0), (.slice none 0 0), (.int .i64 0), (.slice none 0 0), (.slice none 0 0)]), ow 3 (.alloc 29 [(.int .i64 0), (.slice none 0 0), (.slice none 0 0), (.int .i64 0), (.slice none 0 0), (.slice none 0 0)]), ⟨none, none, .store 29 (tm 1) (tm 33) 6⟩, ⟨none, none, .store 29 (tm 2) (tm 34) 6⟩, ⟨none, none, .store 29 (tm 3) (tm 35) 6⟩])
 (.seq
 (.ops [ow 37 (.load 29 (tm 1) (some 6)), ow 38 (.call 17 [(tm 37)] 35), om 36 38, ow 39 (.extract (tm 36) 0), ow 40 (.extract (tm 36) 1), ow 41 (.extract (tm 36) 2), om 4 39, om 5 40, om 6 41])
 (.seq
 (.ops [ow 43 (.load 29 (tm 2) (some 6)), ow 44 (.call 17 [(tm 43)] 35), om 42 44, ow 45 (.extract (tm 42) 0), ow 46 (.extract (tm 42) 1), ow 47 (.extract (tm 42) 2), om 7 45, om 8 46, om 9 47])
 (.seq
 (.ops [ow 49 (.load 29 (tm 3) (some 6)), ow 50 (.call 17 [(tm 49)] 35), om 48 50, ow 51 (.extract (tm 48) 0), ow 52 (.extract (tm 48) 1), ow 53 (.extract (tm 48) 2), om 10 51, om 11 52, om 12 53])
 (.seq
 (.ops [ow 55 (.load 29 (tm 1) (some 6)), ow 56 (.call 20 [(tm 55), (kc 0), (kc 1)] 38), om 54 56, ow 57 (.extract (tm 54) 0), ow 58 (.extract (tm 54) 1), om 13 57, om 14 58])
 (.seq
 (.ops [ow 60 (.load 29 (tm 1) (some 6)), ow 61 (.call 20 [(tm 60), (kc 0), (kc 2)] 38), om 59 61, ow 62 (.extract (tm 59) 0), ow 63 (.extract (tm 59) 1), om 15 62, om 16 63])
 (.seq
 (.ops [ow 65 (.load 29 (tm 2) (some 6)), ow 66 (.call 20 [(tm 65), (kc 0), (kc 1)] 38), om 64 66, ow 67 (.extract (tm 64) 0), ow 68 (.extract (tm 64) 1), om 17 67, om 18 68])
 (.seq
 (.ops [ow 70 (.load 29 (tm 2) (some 6)), ow 71 (.call 23 [(tm 70)] 44), om 69 71, ow 72 (.extract (tm 69) 0), ow 73 (.extract (tm 69) 1), ow 19 (.alloc 43 [(.int .i64 0), (.int .i64 0)]), ⟨none, none, .store 43 (tm 19) (tm 72) 2⟩, om 20 73])
 (.seq
 (.ops [ow 75 (.load 29 (tm 2) (some 6)), ow 76 (.call 25 [(tm 75), (kc 0)] 44), om 74 76, ow 77 (.extract (tm 74) 0), ow 78 (.extract (tm 74) 1), ow 21 (.alloc 43 [(.int .i64 0), (.int .i64 0)]), ⟨none, none, .store 43 (tm 21) (tm 77) 2⟩, om 22 78])
 (.seq
 (.ops [ow 80 (.load 29 (tm 1) (some 6)), ow 81 (.call 27 [(tm 80), (kc 0), (kc 2)] 38), om 79 81, ow 82 (.extract (tm 79) 0), ow 83 (.extract (tm 79) 1), om 23 82, om 24 83])
 (.seq
 (.ops [ow 85 (.load 29 (tm 1) (some 6)), ow 86 (.call 27 [(tm 85), (kc 0), (kc 3)] 38), om 84 86, ow 87 (.extract (tm 84) 0), ow 88 (.extract (tm 84) 1), om 25 87, om 26 88])
 (.seq
 (.ops [ow 90 (.load 29 (tm 1) (some 6)), ow 91 (.call 27 [(tm 90), (kc 1), (kc 2)] 38), om 89 91, ow 92 (.extract (tm 89) 0), ow 93 (.extract (tm 89) 1), om 27 92, om 28 93])
 (.seq
 (.ops [ow 95 (.load 29 (tm 3) (some 6)), ow 96 (.call 31 [(tm 95)] 50), om 94 96, ow 97 (.extract (tm 94) 0), ow 98 (.extract (tm 94) 1), om 29 97, om 30 98])
 (.seq
 (.dops [(ow 100 (.load 29 (tm 1) (some 6)), []), (ow 101 (.call 68 [(kc 0), (kc 1), (kc 120), (kc 120), (kc (-1))] 49), []), (ow 102 (.call 29 [(tm 100), (tm 101)] 50), [0, 1, 1]), (om 99 102, [2]), (ow 103 (.extract (tm 99) 0), [3]), (ow 104 (.extract (tm 99) 1), [3]), (om 31 103, [4, 2, 0, 1, 2, 3, 4]), (om 32 104, [5, 6, 0, 1, 2, 3, 4, 5, 6])])
 (.seq
 (.dops [(om 105 6, []), (ow 106 (.bin .eql 31 (tm 105) (kc 0)), [0]), (om 107 106, [1]), (oy 108 107 (.mov (tm 9)), [2]), (oy 109 107 (.bin .eql 31 (tm 108) (kc 0)), [3, 2]), (ow 110 (.pick (tm 107) (tm 109) (.const (.bool false))), [2, 4]), (om 111 110, [5, 2]), (oy 112 111 (.mov (tm 12)), [6]), (oy 113 111 (.bin .eql 31 (tm 112) (kc 8)), [7, 6]), (ow 114 (.pick (tm 111) (tm 113) (.const (.bool false))), [6, 8]), (om 115 114, [9, 6]), (oy 116 115 (.mov (tm 14)), [10]), (oy 117 115 (.bin .eql 31 (tm 116) (kc 0)), [11, 10]), (ow 118 (.pick (tm 115) (tm 117) (.const (.bool false))), [10, 12]), (om 119 118, [13, 10]), (oy 120 119 (.mov (tm 16)), [14]), (oy 121 119 (.bin .eql 31 (tm 120) (kc 0)), [15, 14]), (ow 122 (.pick (tm 119) (tm 121) (.const (.bool false))), [14, 16]), (om 123 122, [17, 14]), (oy 124 123 (.mov (tm 18)), [18]), (oy 125 123 (.bin .eql 31 (tm 124) (kc 0)), [19, 18]), (ow 126 (.pick (tm 123) (tm 125) (.const (.bool false))), [18, 20]), (om 127 126, [21, 18]), (oy 128 127 (.mov (tm 20)), [22]), (oy 129 127 (.bin .eql 31 (tm 128) (kc 0)), [23, 22]), (ow 130 (.pick (tm 127) (tm 129) (.const (.bool false))), [22, 24]), (om 131 130, [25, 22]), (oy 132 131 (.mov (tm 22)), [26]), (oy 133 131 (.bin .eql 31 (tm 132) (kc 0)), [27, 26]), (ow 134 (.pick (tm 131) (tm 133) (.const (.bool false))), [26, 28]), (om 135 134, [29, 26]), (oy 136 135 (.mov (tm 24)), [30]), (oy 137 135 (.bin .eql 31 (tm 136) (kc 0)), [31, 30]), (ow 138 (.pick (tm 135) (tm 137) (.const (.bool false))), [30, 32]), (om 139 138, [33, 30]), (oy 140 139 (.mov (tm 26)), [34]), (oy 141 139 (.bin .eql 31 (tm 140) (kc 0)), [35, 34]), (ow 142 (.pick (tm 139) (tm 141) (.const (.bool false))), [34, 36]), (om 143 142, [37, 34]), (oy 144 143 (.mov (tm 28)), [38]), (oy 145 143 (.bin .eql 31 (tm 144) (kc 0)), [39, 38]), (ow 146 (.pick (tm 143) (tm 145) (.const (.bool false))), [38, 40]), (om 147 146, [41, 38]), (oy 148 147 (.mov (tm 30)), [42]), (oy 149 147 (.bin .eql 31 (tm 148) (kc 0)), [43, 42]), (ow 150 (.pick (tm 147) (tm 149) (.const (.bool false))), [42, 44]), (om 151 150, [45, 42]), (oy 152 151 (.mov (tm 32)), [46]), (oy 153 151 (.bin .eql 31 (tm 152) (kc 0)), [47, 46]), (ow 154 (.pick (tm 151) (tm 153) (.const (.bool false))), [46, 48]), (om 155 154, [49, 46]), (oy 156 155 (.mov (tm 4)), [50]), (oy 157 155 (.bslice 34 4 [(0, (kc 0)), (1, (kc 0)), (2, (kc 1)), (3, (kc 1))] 3 1 [(.int .i64 0)]), [50]), (oy 158 155 (.call 19 [(tm 156), (tm 157)] 4), [51, 52, 50, 50]), (ow 159 (.pick (tm 155) (tm 158) (.const (.bool false))), [50, 53]), (om 160 159, [54, 53]), (oy 161 160 (.mov (tm 5)), [55]), (oy 162 160 (.bin .eql 3 (tm 161) (kc 4)), [56, 55]), (ow 163 (.pick (tm 160) (tm 162) (.const (.bool false))), [55, 57]), (om 164 163, [58, 55]), (oy 165 164 (.mov (tm 8)), [59]), (oy 166 164 (.bin .eql 3 (tm 165) (kc 2)), [60, 59]), (ow 167 (.pick (tm 164) (tm 166) (.const (.bool false))), [59, 61]), (om 168 167, [62, 59]), (oy 169 168 (.mov (tm 13)), [63]), (oy 170 168 (.bin .eql 3 (tm 169) (kc 0)), [64, 63]), (ow 171 (.pick (tm 168) (tm 170) (.const (.bool false))), [63, 65]), (om 172 171, [66, 63]), (oy 173 172 (.mov (tm 15)), [67]), (oy 174 172 (.bin .eql 3 (tm 173) (kc 2)), [68, 67]), (ow 175 (.pick (tm 172) (tm 174) (.const (.bool false))), [67, 69]), (om 176 175, [70, 67]), (oy 177 176 (.mov (tm 17)), [71]), (oy 178 176 (.bin .eql 3 (tm 177) (kc 1)), [72, 71]), (ow 179 (.pick (tm 176) (tm 178) (.const (.bool false))), [71, 73]), (om 180 179, [74, 71]), (oy 181 180 (.load 43 (tm 19) (some 2)), [75]), (oy 182 180 (.call 48 [(kc 2), (kc 3)] 43), [75, 75]), (oy 183 180 (.eqT false 43 (tm 181) (tm 182)), [76, 77, 75]), (ow 184 (.pick (tm 180) (tm 183) (.const (.bool false))), [75, 78]), (om 185 184, [79, 77]), (oy 186 185 (.load 43 (tm 21) (some 2)), [80]), (oy 187 185 (.call 48 [(kc 105), (kc 110)] 43), [80, 80]), (oy 188 185 (.eqT false 43 (tm 186) (tm 187)), [81, 82, 80]), (ow 189 (.pick (tm 185) (tm 188) (.const (.bool false))), [80, 83]), (om 190 189, [84, 82]), (oy 191 190 (.mov (tm 23)), [85]), (oy 192 190 (.bin .eql 3 (tm 191) (kc 2)), [86, 85]), (ow 193 (.pick (tm 190) (tm 192) (.const (.bool false))), [85, 87]), (om 194 193, [88, 85]), (oy 195 194 (.mov (tm 25)), [89]), (oy 196 194 (.bin .eql 3 (tm 195) (kc 3)), [90, 89]), (ow 197 (.pick (tm 194) (tm 196) (.const (.bool false))), [89, 91]), (om 198 197, [92, 89]), (oy 199 198 (.mov (tm 27)), [93]), (oy 200 198 (.bin .eql 3 (tm 199) (kc 1)), [94, 93]), (ow 201 (.pick (tm 198) (tm 200) (.const (.bool false))), [93, 95]), (om 202 201, [96, 93]), (oy 203 202 (.mov (tm 29)), [97]), (oy 204 202 (.bslice 34 1 [(0, (kc 0))] 3 1 [(.int .i64 0)]), [97]), (oy 205 202 (.call 19 [(tm 203), (tm 204)] 4), [98, 99, 97, 97]), (ow 206 (.pick (tm 202) (tm 205) (.const (.bool false))), [97, 100]), (om 207 206, [101, 100]), (oy 208 207 (.mov (tm 31)), [102]), (oy 209 207 (.bslice 34 2 [(0, (kc 1)), (1, (kc 2))] 3 1 [(.int .i64 0)]), [102]), (oy 210 207 (.call 19 [(tm 208), (tm 209)] 4), [103, 104, 102, 102]), (ow 211 (.pick (tm 207) (tm 210) (.const (.bool false))), [102, 105]), (om 0 211, [106, 105, 0, 1, 2, 3, 4, 5, 6, 7, 8, 9, 10, 11, 12, 13, 14, 15, 16, 17, 18, 19, 20, 21, 22, 23, 24, 25, 26, 27, 28, 29, 30, 31, 32, 33, 34, 35, 36, 37, 38, 39, 40, 41, 42, 43, 44, 45, 46, 47, 48, 49, 50, 51, 52, 53, 54, 55, 56, 57, 58, 59, 60, 61, 62, 63, 64, 65, 66, 67, 68, 69, 70, 71, 72, 73, 74, 75, 76, 77, 78, 79, 80, 81, 82, 83, 84, 85, 86, 87, 88, 89, 90, 91, 92, 93, 94, 95, 96, 97, 98, 99, 100, 101, 102, 103, 104, 105, 106])]) .ret))))))))))))))))
theorem fn22 : FnOK Tryz.prog 22 212 [.tmp 0] L22 := ⟨Tryz.f22, Tryz.func22, by kernel_rfl, Tryz.ntmps22, by rw [Tryz.results22], by kernel_rfl⟩
def L23 : LCode :=
 (.seq
 (.ops [ow 1 (.box 29 (tm 0)), ow 2 (.alloc 43 [(.int .i64 0), (.int .i64 0)]), ow 3 (.mov (kc 0))])
 (.seq
 (.ops [ow 9 (.load 29 (tm 1) (some 6)), ow 10 (.call 58 [(tm 9), (.func 59)] 88), om 8 10, ow 11 (.extract (tm 8) 0), ow 12 (.extract (tm 8) 1), om 4 11, om 3 12])
 (.seq
 (.seq
 (.ops [om 13 3, ow 14 (.bin .neq 31 (tm 13) (kc 0))])
 (.ite (tm 14)
 (.seq
 (.ops [ow 15 (.load 43 (tm 2) (some 2)), om 16 3, ⟨none, none, .store 43 (tm 2) (tm 15) 2⟩, om 3 16]) .ret) .skip))
 (.seq
 (.ops [ow 5 (.alloc 4 [(.bool false)]), ⟨none, none, .store 4 (tm 5) (.const (.bool true)) 1⟩])
 (.seq
 (.seq
 (.ops [om 17 4, ow 18 (.call 60 [(tm 17)] 92)])
 (.block 0
 (.rfun (tm 18) [19, 20]
 (.ops [om 7 20])
 (.block 1
 (.seq
 (.ops [ow 21 (.load 43 (tm 2) (some 2)), om 22 7, om 23 7, ow 24 (.build 43 [(0, (tm 22)), (1, (tm 23))] [(.int .i64 0), (.int .i64 0)] [(0, 1, (tm 22)), (1, 1, (tm 23))]), ow 25 (.load 4 (tm 5) none), ow 26 (.call 69 [(tm 21), (tm 24), (tm 25)] 43), ⟨none, none, .store 43 (tm 2) (tm 26) 2⟩])
 (.ops [⟨none, none, .store 4 (tm 5) (.const (.bool false)) 1⟩]))))))
 (.seq
 (.ops [ow 27 (.load 43 (tm 2) (some 2)), ⟨none, none, .store 43 (tm 2) (tm 27) 2⟩, ow 3 (.mov (kc 0))]) .ret))))))
theorem fn23 : FnOK Tryz.prog 23 28 [.cell 2 43, .tmp 3] L23 := ⟨Tryz.f23, Tryz.func23, by kernel_rfl, Tryz.ntmps23, by rw [Tryz.results23], by kernel_rfl⟩
def L25 : LCode :=
 (.seq
 (.ops [ow 2 (.box 29 (tm 0)), ow 3 (.box 3 (tm 1)), ow 4 (.alloc 43 [(.int .i64 0), (.int .i64 0)]), ow 5 (.mov (kc 0))])
 (.seq
 (.ops [ow 12 (.load 29 (tm 2) (some 6)), ow 13 (.mkfn (.func 71) [] [(tm 2), (tm 3)]), ow 14 (.call 58 [(tm 12), (tm 13)] 88), om 11 14, ow 15 (.extract (tm 11) 0), ow 16 (.extract (tm 11) 1), ow 6 (.alloc 87 [(.pointer none)]), ⟨none, none, .store 87 (tm 6) (tm 15) 1⟩, om 5 16])
 (.seq
 (.seq
 (.ops [om 17 5, ow 18 (.bin .neq 31 (tm 17) (kc 0))])
 (.ite (tm 18)
 (.seq
 (.ops [ow 19 (.load 43 (tm 4) (some 2)), om 20 5, ⟨none, none, .store 43 (tm 4) (tm 19) 2⟩, om 5 20]) .ret) .skip))
 (.seq
 (.ops [ow 7 (.alloc 4 [(.bool false)]), ⟨none, none, .store 4 (tm 7) (.const (.bool true)) 1⟩])
 (.seq
 (.seq
 (.ops [ow 21 (.load 87 (tm 6) none), ow 22 (.call 60 [(tm 21)] 92)])
 (.block 0
 (.rfun (tm 22) [23, 24]
 (.ops [ow 8 (.alloc 95 [(.int .i64 0), (.int .i64 0), (.int .i64 0), (.int .i64 0), (.int .i64 0), (.int .i64 0)]), ⟨none, none, .store 95 (tm 8) (tm 23) 6⟩])
 (.block 1
 (.seq
 (.ops [ow 26 (.load 87 (tm 6) none), ow 27 (.load 95 (tm 8) (some 6)), ow 28 (.call 72 [(tm 26), (tm 27)] 107), om 25 28, ow 29 (.extract (tm 25) 0), ow 30 (.extract (tm 25) 1), ow 9 (.alloc 106 [(.int .i64 0), (.int .i64 0), (.int .i64 0), (.int .i64 0), (.int .i64 0), (.int .i64 0), (.int .i64 0), (.int .i64 0), (.int .i64 0), (.int .i64 0), (.int .i64 0), (.int .i64 0)]), ⟨none, none, .store 106 (tm 9) (tm 29) 12⟩, om 10 30])
 (.seq
 (.dops [(ow 31 (.load 43 (tm 4) (some 2)), []), (ow 32 (.load 3 (tm 3) none), []), (ow 33 (.iaddrA 95 (tm 8) (tm 32) 6 1), [1]), (ow 34 (.load 3 (tm 33) none), [2]), (ow 35 (.iaddrA 106 (tm 9) (tm 34) 6 2), [3]), (ow 36 (.load 43 (tm 35) (some 2)), [4]), (ow 37 (.load 4 (tm 7) none), []), (ow 38 (.call 69 [(tm 31), (tm 36), (tm 37)] 43), [0, 5, 6]), (⟨none, none, .store 43 (tm 4) (tm 38) 2⟩, [7, 7, 0, 1, 2, 3, 4, 5, 6, 7])])
 (.ops [⟨none, none, .store 4 (tm 7) (.const (.bool false)) 1⟩])))))))
 (.seq
 (.ops [ow 39 (.load 43 (tm 4) (some 2)), ⟨none, none, .store 43 (tm 4) (tm 39) 2⟩, ow 5 (.mov (kc 0))]) .ret))))))
theorem fn25 : FnOK Tryz.prog 25 40 [.cell 4 43, .tmp 5] L25 := ⟨Tryz.f25, Tryz.func25, by kernel_rfl, Tryz.ntmps25, by rw [Tryz.results25], by kernel_rfl⟩
def L27 : LCode :=
 (.seq
 (.ops [ow 3 (.box 29 (tm 0)), ow 6 (.mov (kc 0)), ow 7 (.mov (kc 0))])
 (.seq
 (.ops [ow 12 (.load 29 (tm 3) (some 6)), ow 13 (.call 15 [(tm 12)] 32), om 11 13, ow 14 (.extract (tm 11) 0), ow 15 (.extract (tm 11) 1), ow 16 (.extract (tm 11) 2), om 8 14, om 9 15, om 10 16])
 (.seq
 (.seq
 (.ops [om 17 10, ow 18 (.bin .eql 31 (tm 17) (kc 0))])
 (.ite (tm 18)
 (.ops [ow 19 (.load 29 (tm 3) (some 6)), om 20 1, om 21 2, ow 22 (.call 63 [(tm 19), (tm 20), (tm 21)] 90), ow 23 (.callv (tm 22) [] 31), om 10 23]) .skip))
 (.seq
 (.seq
 (.ops [om 24 10, ow 25 (.bin .neq 31 (tm 24) (kc 0))])
 (.ite (tm 25)
 (.seq
 (.ops [om 26 10, ow 6 (.mov (kc 0)), om 7 26]) .ret) .skip))
 (.seq
 (.ops [ow 27 (.load 29 (tm 3) (some 6)), ow 28 (.call 75 [(tm 27), (kc 0)] 87), om 29 1, om 30 2, ow 31 (.call 76 [(tm 28), (tm 29), (tm 30)] 3), om 6 31, ow 7 (.mov (kc 0))]) .ret)))))
theorem fn27 : FnOK Tryz.prog 27 32 [.tmp 6, .tmp 7] L27 := ⟨Tryz.f27, Tryz.func27, by kernel_rfl, Tryz.ntmps27, by rw [Tryz.results27], by kernel_rfl⟩
def L29 : LCode :=
 (.seq
 (.ops [ow 2 (.box 29 (tm 0)), ow 3 (.box 49 (tm 1)), ow 4 (.mov (.const (.slice none 0 0))), ow 5 (.mov (kc 0))])
 (.seq
 (.ops [ow 13 (.load 29 (tm 2) (some 6)), ow 14 (.mkfn (.func 77) [] [(tm 2), (tm 3)]), ow 15 (.call 58 [(tm 13), (tm 14)] 88), om 12 15, ow 16 (.extract (tm 12) 0), ow 17 (.extract (tm 12) 1), om 6 16, om 7 17])
 (.seq
 (.seq
 (.ops [om 18 7, ow 19 (.bin .neq 31 (tm 18) (kc 0))])
 (.ite (tm 19)
 (.seq
 (.ops [om 20 7, ow 4 (.mov (.const (.slice none 0 0))), om 5 20]) .ret) .skip))
 (.seq
 (.ops [ow 21 (.faddr 29 (tm 2) 2 4), ow 22 (.load 26 (tm 21) none), ow 23 (.len false 26 3 (tm 22)), ow 8 (.alloc 3 [(.int .i64 0)]), ⟨none, none, .store 3 (tm 8) (tm 23) 1⟩])
 (.seq
 (.dops [(ow 24 (.faddr 29 (tm 2) 2 4), []), (ow 25 (.load 26 (tm 24) none), [0]), (ow 26 (.call 78 [(tm 25)] 26), [1]), (ow 27 (.load 49 (tm 3) (some 5)), []), (ow 28 (.bslice 26 1 [(0, (tm 27))] 49 5 [(.int .i64 0), (.int .i64 0), (.int .i64 0), (.int .i64 0), (.int .i64 0)]), [3]), (ow 29 (.append 26 26 (tm 26) (tm 28) 49 5 40 [(.int .i64 0), (.int .i64 0), (.int .i64 0), (.int .i64 0), (.int .i64 0)]), [2, 4, 2]), (ow 30 (.faddr 29 (tm 2) 2 4), [0, 1, 2, 3, 4, 5]), (⟨none, none, .store 26 (tm 30) (tm 29) 1⟩, [6, 5, 5, 0, 1, 2, 3, 4, 5])])
 (.seq
 (.ops [ow 9 (.alloc 3 [(.int .i64 0)]), ⟨none, none, .store 3 (tm 9) (kc 0) 1⟩])
 (.seq
 (.seq
 (.ops [ow 31 (.load 29 (tm 2) (some 6)), ow 32 (.call 75 [(tm 31), (kc 0)] 87), ow 33 (.call 60 [(tm 32)] 92)])
 (.block 0
 (.rfun (tm 33) [34, 35]
 (.ops [ow 10 (.alloc 95 [(.int .i64 0), (.int .i64 0), (.int .i64 0), (.int .i64 0), (.int .i64 0), (.int .i64 0)]), ⟨none, none, .store 95 (tm 10) (tm 34) 6⟩])
 (.block 1
 (.seq
 (.ops [ow 36 (.load 3 (tm 8) none), ow 37 (.mov (kc 0))])
 (.block 2
 (.loop
 (.seq
 (.ops [ow 38 (.bin .lss 3 (tm 37) (tm 36))])
 (.seq
 (.ite (tm 38) .skip
 (.exit 2))
 (.seq
 (.block 3
 (.seq
 (.ops [om 39 37, om 11 39])
 (.seq
 (.dops [(om 40 11, []), (ow 41 (.iaddrA 95 (tm 10) (tm 40) 6 1), [0]), (ow 42 (.load 3 (tm 41) none), [1]), (ow 43 (.load 3 (tm 8) none), []), (ow 44 (.iaddrA 95 (tm 10) (tm 43) 6 1), [3]), (ow 45 (.load 3 (tm 44) none), [4]), (ow 46 (.bin .eql 3 (tm 42) (tm 45)), [2, 5])])
 (.ite (tm 46)
 (.dops [(ow 47 (.load 3 (tm 9) none), []), (om 48 11, []), (ow 49 (.bin .shl 3 (kc 1) (tm 48)), [1]), (ow 50 (.bin .or 3 (tm 47) (tm 49)), [0, 2]), (⟨none, none, .store 3 (tm 9) (tm 50) 1⟩, [3, 0, 1, 2, 3])]) .skip))))
 (.ops [ow 51 (.bin .add 3 (tm 37) (kc 1)), om 37 51])))))))))))
 (.seq
 (.ops [ow 52 (.load 3 (tm 9) none), ow 53 (.load 3 (tm 8) none), ow 54 (.call 79 [(tm 52), (tm 53)] 34), om 4 54, ow 5 (.mov (kc 0))]) .ret))))))))
theorem fn29 : FnOK Tryz.prog 29 55 [.tmp 4, .tmp 5] L29 := ⟨Tryz.f29, Tryz.func29, by kernel_rfl, Tryz.ntmps29, by rw [Tryz.results29], by kernel_rfl⟩
def L31 : LCode :=
 (.seq
 (.ops [ow 1 (.box 29 (tm 0)), ow 2 (.mov (.const (.slice none 0 0))), ow 3 (.mov (kc 0))])
 (.seq
 (.seq
 (.ops [ow 8 (.load 29 (tm 1) (some 6)), ow 9 (.call 15 [(tm 8)] 32), om 7 9, ow 10 (.extract (tm 7) 0), ow 11 (.extract (tm 7) 1), ow 12 (.extract (tm 7) 2), om 3 12])
 (.seq
 (.ops [om 13 3, ow 14 (.bin .neq 31 (tm 13) (kc 0))])
 (.ite (tm 14)
 (.seq
 (.ops [om 15 3, ow 2 (.mov (.const (.slice none 0 0))), om 3 15]) .ret) .skip)))
 (.seq
 (.ops [ow 4 (.mov (.const (.bool false)))])
 (.seq
 (.seq
 (.ops [ow 16 (.faddr 29 (tm 1) 3 5), ow 17 (.load 27 (tm 16) none), ow 18 (.len false 27 3 (tm 17)), ow 19 (.bin .shl 3 (kc 1) (tm 18)), ow 20 (.mov (kc 0))])
 (.block 0
 (.loop
 (.seq
 (.ops [ow 21 (.bin .lss 3 (tm 20) (tm 19))])
 (.seq
 (.ite (tm 21) .skip
 (.exit 0))
 (.seq
 (.block 1
 (.seq
 (.ops [om 22 20, om 5 22])
 (.seq
 (.ops [om 23 5, ow 24 (.faddr 29 (tm 1) 3 5), ow 25 (.load 27 (tm 24) none), ow 26 (.len false 27 3 (tm 25)), ow 27 (.call 79 [(tm 23), (tm 26)] 34), om 6 27])
 (.seq
 (.seq
 (.ops [om 28 4, om 29 28, oy 30 29 (.mov (tm 6)), oy 31 29 (.len false 34 3 (tm 30)), oy 32 29 (.mov (tm 2)), oy 33 29 (.len false 34 3 (tm 32)), oy 34 29 (.bin .gtr 3 (tm 31) (tm 33)), oy 35 29 (.mov (tm 34)), oz 36 35 (.mov (tm 6)), oz 37 35 (.len false 34 3 (tm 36)), oz 38 35 (.mov (tm 2)), oz 39 35 (.len false 34 3 (tm 38)), oz 40 35 (.bin .eql 3 (tm 37) (tm 39)), oz 41 35 (.mov (tm 40)), oy 42 41 (.mov (tm 6)), oy 43 41 (.mov (tm 2)), oy 44 41 (.call 80 [(tm 42), (tm 43)] 3), oy 45 41 (.bin .gtr 3 (tm 44) (kc 0)), oz 46 35 (.pick (tm 41) (tm 45) (.const (.bool false))), oy 47 29 (.pick (tm 35) (.const (.bool true)) (tm 46)), ow 48 (.pick (tm 29) (tm 47) (.const (.bool false)))])
 (.ite (tm 48)
 (.exit 1) .skip))
 (.seq
 (.ops [ow 49 (.load 29 (tm 1) (some 6)), om 50 5, ow 51 (.call 75 [(tm 49), (tm 50)] 87), ow 52 (.call 81 [(tm 51)] 4)])
 (.ite (tm 52)
 (.ops [om 53 6, om 2 53, ow 4 (.mov (.const (.bool true)))]) .skip))))))
 (.ops [ow 54 (.bin .add 3 (tm 20) (kc 1)), om 20 54])))))))
 (.seq
 (.seq
 (.ops [om 55 4, ow 56 (.un .not (tm 55))])
 (.ite (tm 56)
 (.seq
 (.ops [ow 2 (.mov (.const (.slice none 0 0))), ow 3 (.mov (kc 9))]) .ret) .skip))
 (.seq
 (.ops [om 57 2, om 2 57, ow 3 (.mov (kc 0))]) .ret))))))
theorem fn31 : FnOK Tryz.prog 31 58 [.tmp 2, .tmp 3] L31 := ⟨Tryz.f31, Tryz.func31, by kernel_rfl, Tryz.ntmps31, by rw [Tryz.results31], by kernel_rfl⟩
def L48 : LCode :=
 (.seq
 (.ops [ow 4 (.alloc 43 [(.int .i64 0), (.int .i64 0)])])
 (.seq
 (.ops [om 5 0, om 6 1, ow 7 (.build 43 [(0, (tm 5)), (1, (tm 6))] [(.int .i64 0), (.int .i64 0)] [(0, 1, (tm 5)), (1, 1, (tm 6))]), ⟨none, none, .store 43 (tm 4) (tm 7) 2⟩]) .ret))
theorem fn48 : FnOK Tryz.prog 48 8 [.cell 4 43] L48 := ⟨Tryz.f48, Tryz.func48, by kernel_rfl, Tryz.ntmps48, by rw [Tryz.results48], by kernel_rfl⟩
def L49 : LCode :=
 (.seq
 (.ops [ow 1 (.box 25 (tm 0)), ow 2 (.mov (kc 0)), ow 3 (.mov (kc 0)), ow 4 (.mov (kc 0))])
 (.seq
 (.block 0
 (.seq
 (.ops [ow 6 (.faddr 25 (tm 1) 0 0), ow 7 (.load 3 (tm 6) none), ow 8 (.bslice 34 1 [(0, (tm 7))] 3 1 [(.int .i64 0)]), ow 9 (.call 87 [(kc 1), (kc 4), (tm 8)] 4), om 5 9])
 (.ite (tm 5)
 (.seq
 (.ops [ow 2 (.mov (kc 1)), ow 3 (.mov (kc 0)), ow 4 (.mov (kc 7))]) .ret)
 (.seq
 (.ops [ow 11 (.faddr 25 (tm 1) 1 1), ow 12 (.load 22 (tm 11) none), ow 13 (.len false 22 3 (tm 12)), ow 14 (.bslice 34 1 [(0, (tm 13))] 3 1 [(.int .i64 0)]), ow 15 (.call 87 [(kc 1), (kc 3), (tm 14)] 4), om 10 15])
 (.ite (tm 10)
 (.seq
 (.ops [ow 2 (.mov (kc 2)), ow 3 (.mov (kc 0)), ow 4 (.mov (kc 3))]) .ret) .skip)))))
 (.seq
 (.ops [ow 17 (.faddr 25 (tm 1) 1 1), ow 18 (.load 22 (tm 17) none), ow 19 (.mkfn (.func 89) [] [(tm 1)]), ow 20 (.call 88 [(tm 18), (tm 19)] 38), om 16 20, ow 21 (.extract (tm 16) 0), ow 22 (.extract (tm 16) 1), om 3 21, om 4 22])
 (.seq
 (.block 1
 (.seq
 (.ops [om 24 4, ow 25 (.bin .neq 31 (tm 24) (kc 0)), om 23 25])
 (.ite (tm 23)
 (.seq
 (.ops [om 26 3, om 27 4, ow 2 (.mov (kc 2)), om 3 26, om 4 27]) .ret)
 (.seq
 (.ops [ow 29 (.faddr 25 (tm 1) 2 2), ow 30 (.load 23 (tm 29) none), ow 31 (.len false 23 3 (tm 30)), ow 32 (.bin .gtr 3 (tm 31) (kc 5)), om 28 32])
 (.ite (tm 28)
 (.seq
 (.ops [ow 2 (.mov (kc 3)), ow 3 (.mov (kc 0)), ow 4 (.mov (kc 3))]) .ret) .skip)))))
 (.seq
 (.ops [ow 34 (.faddr 25 (tm 1) 2 2), ow 35 (.load 23 (tm 34) none), ow 36 (.mkfn (.func 97) [] [(tm 1)]), ow 37 (.call 96 [(tm 35), (tm 36)] 38), om 33 37, ow 38 (.extract (tm 33) 0), ow 39 (.extract (tm 33) 1), om 3 38, om 4 39])
 (.seq
 (.seq
 (.ops [om 40 4, ow 41 (.bin .neq 31 (tm 40) (kc 0))])
 (.ite (tm 41)
 (.seq
 (.ops [om 42 3, om 43 4, ow 2 (.mov (kc 3)), om 3 42, om 4 43]) .ret) .skip))
 (.seq
 (.ops [ow 2 (.mov (kc 0)), ow 3 (.mov (kc 0)), ow 4 (.mov (kc 0))]) .ret)))))))
theorem fn49 : FnOK Tryz.prog 49 44 [.tmp 2, .tmp 3, .tmp 4] L49 := ⟨Tryz.f49, Tryz.func49, by kernel_rfl, Tryz.ntmps49, by rw [Tryz.results49], by kernel_rfl⟩
def L50 : LCode :=
 (.seq
 (.ops [ow 3 (.box 3 (tm 0)), ow 4 (.box 3 (tm 1)), ow 6 (.mov (.const (.bool false)))])
 (.seq
 (.ops [om 7 2, ow 8 (.mkfn (.func 100) [] [(tm 3), (tm 4)]), ow 9 (.call 99 [(tm 7), (tm 8)] 4), om 6 9]) .ret))
theorem fn50 : FnOK Tryz.prog 50 10 [.tmp 6] L50 := ⟨Tryz.f50, Tryz.func50, by kernel_rfl, Tryz.ntmps50, by rw [Tryz.results50], by kernel_rfl⟩
def L51 : LCode :=
 (.seq
 (.ops [ow 4 (.mov (kc 0)), ow 5 (.mov (kc 0))])
 (.seq
 (.seq
 (.ops [om 9 0, ow 10 (.len false 26 3 (tm 9)), ow 11 (.mov (kc 0))])
 (.block 0
 (.loop
 (.seq
 (.ops [ow 12 (.bin .lss 3 (tm 11) (tm 10))])
 (.seq
 (.ite (tm 12) .skip
 (.exit 0))
 (.seq
 (.block 1
 (.seq
 (.ops [om 13 11, ow 14 (.iaddr 26 (tm 9) (tm 11) 5), ow 15 (.load 49 (tm 14) (some 5)), ow 7 (.alloc 49 [(.int .i64 0), (.int .i64 0), (.int .i64 0), (.int .i64 0), (.int .i64 0)]), om 6 13, ⟨none, none, .store 49 (tm 7) (tm 15) 5⟩])
 (.seq
 (.ops [om 16 1, om 17 6, ow 18 (.load 49 (tm 7) (some 5)), ow 19 (.callv (tm 16) [(tm 17), (tm 18)] 31), om 8 19])
 (.seq
 (.ops [om 20 8, ow 21 (.bin .neq 31 (tm 20) (kc 0))])
 (.ite (tm 21)
 (.seq
 (.ops [om 22 6, om 23 8, om 4 22, om 5 23]) .ret) .skip)))))
 (.ops [ow 24 (.bin .add 3 (tm 11) (kc 1)), om 11 24])))))))
 (.seq
 (.ops [ow 4 (.mov (kc 0)), ow 5 (.mov (kc 0))]) .ret)))
theorem fn51 : FnOK Tryz.prog 51 25 [.tmp 4, .tmp 5] L51 := ⟨Tryz.f51, Tryz.func51, by kernel_rfl, Tryz.ntmps51, by rw [Tryz.results51], by kernel_rfl⟩
def L52 : LCode :=
 (.seq
 (.ops [ow 4 (.box 49 (tm 1)), ow 5 (.mov (kc 0))])
 (.seq
 (.ops [ow 6 (.load 29 (tm 2) (some 6)), om 7 0, ow 8 (.load 49 (tm 4) (some 5)), ow 9 (.call 53 [(tm 6), (tm 7), (tm 8)] 31), om 5 9]) .ret))
theorem fn52 : FnOK Tryz.prog 52 10 [.tmp 5] L52 := ⟨Tryz.f52, Tryz.func52, by kernel_rfl, Tryz.ntmps52, by rw [Tryz.results52], by kernel_rfl⟩
def L53 : LCode :=
 (.seq
 (.ops [ow 3 (.box 29 (tm 0)), ow 5 (.box 49 (tm 2)), ow 6 (.mov (kc 0))])
 (.seq
 (.block 0
 (.seq
 (.ops [ow 8 (.faddr 29 (tm 3) 0 0), ow 9 (.faddr 25 (tm 8) 2 2), ow 10 (.load 23 (tm 9) none), ow 11 (.len false 23 3 (tm 10)), ow 12 (.bin .sub 3 (tm 11) (kc 1)), ow 13 (.faddr 49 (tm 5) 0 0), ow 14 (.load 3 (tm 13) none), ow 15 (.bslice 34 1 [(0, (tm 14))] 3 1 [(.int .i64 0)]), ow 16 (.call 50 [(kc 0), (tm 12), (tm 15)] 4), om 17 16, oz 18 17 (.faddr 29 (tm 3) 1 3), oz 19 17 (.load 3 (tm 18) none), oz 20 17 (.bin .sub 3 (tm 19) (kc 1)), oz 21 17 (.faddr 49 (tm 5) 1 1), oz 22 17 (.load 3 (tm 21) none), oz 23 17 (.bslice 34 1 [(0, (tm 22))] 3 1 [(.int .i64 0)]), oz 24 17 (.call 50 [(kc (-1)), (tm 20), (tm 23)] 4), ow 25 (.pick (tm 17) (.const (.bool true)) (tm 24)), om 26 25, oz 27 26 (.faddr 29 (tm 3) 2 4), oz 28 26 (.load 26 (tm 27) none), oz 29 26 (.len false 26 3 (tm 28)), oz 30 26 (.bin .sub 3 (tm 29) (kc 1)), oz 31 26 (.faddr 49 (tm 5) 3 4), oz 32 26 (.load 3 (tm 31) none), oz 33 26 (.bslice 34 1 [(0, (tm 32))] 3 1 [(.int .i64 0)]), oz 34 26 (.call 50 [(kc (-1)), (tm 30), (tm 33)] 4), ow 35 (.pick (tm 26) (.const (.bool true)) (tm 34)), om 7 35])
 (.ite (tm 7)
 (.seq
 (.ops [ow 6 (.mov (kc 4))]) .ret)
 (.seq
 (.ops [ow 37 (.faddr 49 (tm 5) 2 2), ow 38 (.faddr 43 (tm 37) 0 0), ow 39 (.load 3 (tm 38) none), ow 40 (.faddr 49 (tm 5) 2 2), ow 41 (.faddr 43 (tm 40) 1 1), ow 42 (.load 3 (tm 41) none), ow 43 (.bslice 34 2 [(0, (tm 39)), (1, (tm 42))] 3 1 [(.int .i64 0)]), ow 44 (.call 50 [(kc 0), (kc 199), (tm 43)] 4), om 36 44])
 (.ite (tm 36)
 (.seq
 (.ops [ow 6 (.mov (kc 7))]) .ret)
 (.seq
 (.ops [ow 46 (.faddr 49 (tm 5) 2 2), ow 47 (.faddr 43 (tm 46) 0 0), ow 48 (.load 3 (tm 47) none), ow 49 (.faddr 49 (tm 5) 2 2), ow 50 (.faddr 43 (tm 49) 1 1), ow 51 (.load 3 (tm 50) none), ow 52 (.bin .gtr 3 (tm 48) (tm 51)), om 53 52, oz 54 53 (.faddr 49 (tm 5) 3 4), oz 55 53 (.load 3 (tm 54) none), oz 56 53 (.mov (tm 1)), oz 57 53 (.bin .eql 3 (tm 55) (tm 56)), ow 58 (.pick (tm 53) (.const (.bool true)) (tm 57)), om 45 58])
 (.ite (tm 45)
 (.seq
 (.ops [ow 6 (.mov (kc 2))]) .ret) .skip)))))))
 (.seq
 (.ops [ow 6 (.mov (kc 0))]) .ret)))
theorem fn53 : FnOK Tryz.prog 53 59 [.tmp 6] L53 := ⟨Tryz.f53, Tryz.func53, by kernel_rfl, Tryz.ntmps53, by rw [Tryz.results53], by kernel_rfl⟩
def L54 : LCode :=
 (.seq
 (.ops [ow 4 (.mov (kc 0)), ow 5 (.mov (kc 0))])
 (.seq
 (.seq
 (.ops [om 9 0, ow 10 (.len false 27 3 (tm 9)), ow 11 (.mov (kc 0))])
 (.block 0
 (.loop
 (.seq
 (.ops [ow 12 (.bin .lss 3 (tm 11) (tm 10))])
 (.seq
 (.ite (tm 12) .skip
 (.exit 0))
 (.seq
 (.block 1
 (.seq
 (.ops [om 13 11, ow 14 (.iaddr 27 (tm 9) (tm 11) 3), ow 15 (.load 63 (tm 14) (some 3)), ow 7 (.alloc 63 [(.int .i64 0), (.int .i64 0), (.bool false)]), om 6 13, ⟨none, none, .store 63 (tm 7) (tm 15) 3⟩])
 (.seq
 (.ops [om 16 1, om 17 6, ow 18 (.load 63 (tm 7) (some 3)), ow 19 (.callv (tm 16) [(tm 17), (tm 18)] 31), om 8 19])
 (.seq
 (.ops [om 20 8, ow 21 (.bin .neq 31 (tm 20) (kc 0))])
 (.ite (tm 21)
 (.seq
 (.ops [om 22 6, om 23 8, om 4 22, om 5 23]) .ret) .skip)))))
 (.ops [ow 24 (.bin .add 3 (tm 11) (kc 1)), om 11 24])))))))
 (.seq
 (.ops [ow 4 (.mov (kc 0)), ow 5 (.mov (kc 0))]) .ret)))
theorem fn54 : FnOK Tryz.prog 54 25 [.tmp 4, .tmp 5] L54 := ⟨Tryz.f54, Tryz.func54, by kernel_rfl, Tryz.ntmps54, by rw [Tryz.results54], by kernel_rfl⟩
def L55 : LCode :=
 (.seq
 (.ops [ow 4 (.box 63 (tm 1)), ow 5 (.mov (kc 0))])
 (.seq
 (.block 0
 (.seq
 (.ops [ow 7 (.faddr 29 (tm 2) 2 4), ow 8 (.load 26 (tm 7) none), ow 9 (.len false 26 3 (tm 8)), ow 10 (.bin .sub 3 (tm 9) (kc 1)), ow 11 (.faddr 63 (tm 4) 0 0), ow 12 (.load 3 (tm 11) none), ow 13 (.faddr 63 (tm 4) 1 1), ow 14 (.load 3 (tm 13) none), ow 15 (.bslice 34 2 [(0, (tm 12)), (1, (tm 14))] 3 1 [(.int .i64 0)]), ow 16 (.call 50 [(kc 0), (tm 10), (tm 15)] 4), om 6 16])
 (.ite (tm 6)
 (.seq
 (.ops [ow 5 (.mov (kc 4))]) .ret)
 (.seq
 (.ops [ow 18 (.faddr 63 (tm 4) 0 0), ow 19 (.load 3 (tm 18) none), ow 20 (.faddr 63 (tm 4) 1 1), ow 21 (.load 3 (tm 20) none), ow 22 (.bin .eql 3 (tm 19) (tm 21)), om 17 22])
 (.ite (tm 17)
 (.seq
 (.ops [ow 5 (.mov (kc 2))]) .ret) .skip)))))
 (.seq
 (.ops [ow 5 (.mov (kc 0))]) .ret)))
theorem fn55 : FnOK Tryz.prog 55 23 [.tmp 5] L55 := ⟨Tryz.f55, Tryz.func55, by kernel_rfl, Tryz.ntmps55, by rw [Tryz.results55], by kernel_rfl⟩
def L58 : LCode :=
 (.seq
 (.ops [ow 2 (.box 29 (tm 0)), ow 4 (.mov (.const (.pointer none))), ow 5 (.mov (kc 0))])
 (.seq
 (.seq
 (.ops [ow 12 (.load 29 (tm 2) (some 6)), ow 13 (.call 15 [(tm 12)] 32), om 11 13, ow 14 (.extract (tm 11) 0), ow 15 (.extract (tm 11) 1), ow 16 (.extract (tm 11) 2), om 6 14, om 7 15, om 8 16])
 (.seq
 (.ops [om 17 8, ow 18 (.bin .neq 31 (tm 17) (kc 0))])
 (.ite (tm 18)
 (.seq
 (.ops [om 19 8, ow 4 (.mov (.const (.pointer none))), om 5 19]) .ret) .skip)))
 (.seq
 (.seq
 (.ops [om 20 1, ow 21 (.callv (tm 20) [] 31), om 9 21])
 (.seq
 (.ops [om 22 9, ow 23 (.bin .neq 31 (tm 22) (kc 0))])
 (.ite (tm 23)
 (.seq
 (.ops [om 24 9, ow 4 (.mov (.const (.pointer none))), om 5 24]) .ret) .skip)))
 (.seq
 (.ops [ow 25 (.load 29 (tm 2) (some 6)), ow 26 (.call 75 [(tm 25), (kc 0)] 87), om 10 26])
 (.seq
 (.seq
 (.ops [om 27 10, ow 28 (.call 81 [(tm 27)] 4), ow 29 (.un .not (tm 28))])
 (.ite (tm 29)
 (.seq
 (.ops [ow 4 (.mov (.const (.pointer none))), ow 5 (.mov (kc 8))]) .ret) .skip))
 (.seq
 (.ops [om 30 10, om 4 30, ow 5 (.mov (kc 0))]) .ret))))))
theorem fn58 : FnOK Tryz.prog 58 31 [.tmp 4, .tmp 5] L58 := ⟨Tryz.f58, Tryz.func58, by kernel_rfl, Tryz.ntmps58, by rw [Tryz.results58], by kernel_rfl⟩
def L59 : LCode :=
 (.seq
 (.ops [ow 0 (.mov (kc 0))])
 (.seq
 (.ops [ow 0 (.mov (kc 0))]) .ret))
theorem fn59 : FnOK Tryz.prog 59 1 [.tmp 0] L59 := ⟨Tryz.f59, Tryz.func59, by kernel_rfl, Tryz.ntmps59, by rw [Tryz.results59], by kernel_rfl⟩
def L60 : LCode :=
 (.seq
 (.ops [ow 1 (.box 87 (tm 0)), ow 2 (.mov (.const .nilFunc))])
 (.seq
 (.ops [ow 3 (.mkfn (.func 105) [] [(tm 1)]), om 2 3]) .ret))
theorem fn60 : FnOK Tryz.prog 60 4 [.tmp 2] L60 := ⟨Tryz.f60, Tryz.func60, by kernel_rfl, Tryz.ntmps60, by rw [Tryz.results60], by kernel_rfl⟩
def L62 : LCode :=
 (.seq
 (.ops [ow 4 (.mov (.const (.bool false)))])
 (.seq
 (.ops [ow 5 (.mov (kc 0))])
 (.seq
 (.block 0
 (.loop
 (.seq
 (.seq
 (.dops [(om 6 5, []), (om 7 0, []), (ow 8 (.len false 34 3 (tm 7)), [1]), (ow 9 (.bin .lss 3 (tm 6) (tm 8)), [0, 2]), (om 10 9, [3]), (oy 11 10 (.mov (tm 5)), [4]), (oy 12 10 (.mov (tm 1)), [4]), (oy 13 10 (.len false 34 3 (tm 12)), [6, 4]), (oy 14 10 (.bin .lss 3 (tm 11) (tm 13)), [5, 7, 4]), (ow 15 (.pick (tm 10) (tm 14) (.const (.bool false))), [4, 8]), (om 16 15, [9, 4]), (oy 17 16 (.mov (tm 0)), [10]), (oy 18 16 (.mov (tm 5)), [10]), (oy 19 16 (.iaddr 34 (tm 17) (tm 18) 1), [11, 12, 10]), (oy 20 16 (.load 3 (tm 19) none), [13, 10]), (oy 21 16 (.mov (tm 1)), [10]), (oy 22 16 (.mov (tm 5)), [10]), (oy 23 16 (.iaddr 34 (tm 21) (tm 22) 1), [15, 16, 10]), (oy 24 16 (.load 3 (tm 23) none), [17, 10]), (oy 25 16 (.bin .eql 3 (tm 20) (tm 24)), [14, 18, 10]), (ow 26 (.pick (tm 16) (tm 25) (.const (.bool false))), [10, 19])])
 (.ite (tm 26) .skip
 (.exit 0)))
 (.block 1
 (.ops [om 27 5, ow 28 (.bin .add 3 (tm 27) (kc 1)), om 5 28])))))
 (.seq
 (.seq
 (.ops [om 29 5, om 30 1, ow 31 (.len false 34 3 (tm 30)), ow 32 (.bin .eql 3 (tm 29) (tm 31))])
 (.ite (tm 32)
 (.seq
 (.ops [ow 4 (.mov (.const (.bool false)))]) .ret) .skip))
 (.seq
 (.dops [(om 33 5, []), (om 34 0, []), (ow 35 (.len false 34 3 (tm 34)), [1]), (ow 36 (.bin .eql 3 (tm 33) (tm 35)), [0, 2]), (om 37 36, [3]), (oz 38 37 (.mov (tm 0)), [4]), (oz 39 37 (.mov (tm 5)), [4]), (oz 40 37 (.iaddr 34 (tm 38) (tm 39) 1), [5, 6, 4]), (oz 41 37 (.load 3 (tm 40) none), [7, 4]), (oz 42 37 (.mov (tm 1)), [4]), (oz 43 37 (.mov (tm 5)), [4]), (oz 44 37 (.iaddr 34 (tm 42) (tm 43) 1), [9, 10, 4]), (oz 45 37 (.load 3 (tm 44) none), [11, 4]), (oz 46 37 (.bin .lss 3 (tm 41) (tm 45)), [8, 12, 4]), (ow 47 (.pick (tm 37) (.const (.bool true)) (tm 46)), [4, 13]), (om 4 47, [14, 4, 0, 1, 2, 3, 4, 5, 6, 7, 8, 9, 10, 11, 12, 13, 14])]) .ret)))))
theorem fn62 : FnOK Tryz.prog 62 48 [.tmp 4] L62 := ⟨Tryz.f62, Tryz.func62, by kernel_rfl, Tryz.ntmps62, by rw [Tryz.results62], by kernel_rfl⟩
def L63 : LCode :=
 (.seq
 (.ops [ow 3 (.box 29 (tm 0)), ow 4 (.box 3 (tm 1)), ow 5 (.box 3 (tm 2)), ow 6 (.mov (.const .nilFunc))])
 (.seq
 (.ops [ow 7 (.mkfn (.func 109) [] [(tm 3), (tm 4), (tm 5)]), om 6 7]) .ret))
theorem fn63 : FnOK Tryz.prog 63 8 [.tmp 6] L63 := ⟨Tryz.f63, Tryz.func63, by kernel_rfl, Tryz.ntmps63, by rw [Tryz.results63], by kernel_rfl⟩
def L64 : LCode :=
 (.seq
 (.ops [ow 4 (.mov (kc 0))])
 (.seq
 (.seq
 (.ops [om 5 0])
 (.block 0
 (.seq
 (.ops [om 7 1, ow 8 (.bin .eql 3 (tm 5) (tm 7)), om 6 8])
 (.ite (tm 6)
 (.seq
 (.ops [ow 4 (.mov (kc 1))]) .ret)
 (.seq
 (.ops [ow 10 (.bin .eql 3 (tm 5) (kc 0)), om 9 10])
 (.ite (tm 9)
 (.seq
 (.ops [ow 4 (.mov (kc 2))]) .ret) .skip))))))
 (.seq
 (.ops [ow 4 (.mov (kc 0))]) .ret)))
theorem fn64 : FnOK Tryz.prog 64 11 [.tmp 4] L64 := ⟨Tryz.f64, Tryz.func64, by kernel_rfl, Tryz.ntmps64, by rw [Tryz.results64], by kernel_rfl⟩
def L67 : LCode :=
 (.seq
 (.ops [ow 2 (.alloc 29 [(.int .i64 0), (.slice none 0 0), (.slice none 0 0), (.int .i64 0), (.slice none 0 0), (.slice none 0 0)])])
 (.seq
 (.ops [ow 4 (.call 110 [] 25), ow 5 (.call 68 [(kc 0), (kc 0), (kc 100), (kc 110), (kc (-1))] 49), ow 6 (.call 68 [(kc 1), (kc (-1)), (kc 105), (kc 120), (kc (-1))] 49), ow 7 (.call 68 [(kc 2), (kc 1), (kc 100), (kc 130), (kc (-1))] 49), ow 8 (.call 68 [(kc 3), (kc (-1)), (kc 130), (kc 140), (kc 0)] 49), ow 9 (.bslice 26 4 [(0, (tm 5)), (1, (tm 6)), (2, (tm 7)), (3, (tm 8))] 49 5 [(.int .i64 0), (.int .i64 0), (.int .i64 0), (.int .i64 0), (.int .i64 0)]), ow 10 (.build 29 [(0, (tm 4)), (1, (kc 2)), (2, (tm 9))] [(.int .i64 0), (.slice none 0 0), (.slice none 0 0), (.int .i64 0), (.slice none 0 0), (.slice none 0 0)] [(0, 3, (tm 4)), (3, 1, (kc 2)), (4, 1, (tm 9))]), ow 3 (.alloc 29 [(.int .i64 0), (.slice none 0 0), (.slice none 0 0), (.int .i64 0), (.slice none 0 0), (.slice none 0 0)]), ⟨none, none, .store 29 (tm 3) (tm 10) 6⟩])
 (.seq
 (.seq
 (.ops [om 11 0, ow 12 (.bin .gtr 3 (tm 11) (kc 0))])
 (.ite (tm 12)
 (.dops [(ow 13 (.faddr 29 (tm 3) 3 5), []), (ow 14 (.load 27 (tm 13) none), [0]), (ow 15 (.call 111 [(.const (.bool true))] 63), []), (ow 16 (.bslice 27 1 [(0, (tm 15))] 63 3 [(.int .i64 0), (.int .i64 0), (.bool false)]), [2]), (ow 17 (.append 27 27 (tm 14) (tm 16) 63 3 24 [(.int .i64 0), (.int .i64 0), (.bool false)]), [1, 3, 2]), (ow 18 (.faddr 29 (tm 3) 3 5), [0, 1, 2, 3, 4]), (⟨none, none, .store 27 (tm 18) (tm 17) 1⟩, [5, 4, 4, 0, 1, 2, 3, 4])]) .skip))
 (.seq
 (.seq
 (.ops [om 19 0, ow 20 (.bin .gtr 3 (tm 19) (kc 1))])
 (.ite (tm 20)
 (.dops [(ow 21 (.faddr 29 (tm 3) 3 5), []), (ow 22 (.load 27 (tm 21) none), [0]), (ow 23 (.call 111 [(.const (.bool false))] 63), []), (ow 24 (.bslice 27 1 [(0, (tm 23))] 63 3 [(.int .i64 0), (.int .i64 0), (.bool false)]), [2]), (ow 25 (.append 27 27 (tm 22) (tm 24) 63 3 24 [(.int .i64 0), (.int .i64 0), (.bool false)]), [1, 3, 2]), (ow 26 (.faddr 29 (tm 3) 3 5), [0, 1, 2, 3, 4]), (⟨none, none, .store 27 (tm 26) (tm 25) 1⟩, [5, 4, 4, 0, 1, 2, 3, 4])]) .skip))
 (.seq
 (.ops [ow 27 (.load 29 (tm 3) (some 6)), ⟨none, none, .store 29 (tm 2) (tm 27) 6⟩]) .ret)))))
theorem fn67 : FnOK Tryz.prog 67 28 [.cell 2 29] L67 := ⟨Tryz.f67, Tryz.func67, by kernel_rfl, Tryz.ntmps67, by rw [Tryz.results67], by kernel_rfl⟩
def L68 : LCode :=
 (.seq
 (.ops [ow 10 (.alloc 49 [(.int .i64 0), (.int .i64 0), (.int .i64 0), (.int .i64 0), (.int .i64 0)])])
 (.seq
 (.ops [om 11 0, om 12 1, om 13 2, om 14 3, ow 15 (.call 48 [(tm 13), (tm 14)] 43), om 16 4, ow 17 (.build 49 [(0, (tm 11)), (1, (tm 12)), (2, (tm 15)), (3, (tm 16))] [(.int .i64 0), (.int .i64 0), (.int .i64 0), (.int .i64 0), (.int .i64 0)] [(0, 1, (tm 11)), (1, 1, (tm 12)), (2, 2, (tm 15)), (4, 1, (tm 16))]), ⟨none, none, .store 49 (tm 10) (tm 17) 5⟩]) .ret))
theorem fn68 : FnOK Tryz.prog 68 18 [.cell 10 49] L68 := ⟨Tryz.f68, Tryz.func68, by kernel_rfl, Tryz.ntmps68, by rw [Tryz.results68], by kernel_rfl⟩
def L69 : LCode :=
 (.seq
 (.ops [ow 3 (.box 43 (tm 0)), ow 4 (.box 43 (tm 1)), ow 6 (.alloc 43 [(.int .i64 0), (.int .i64 0)])])
 (.seq
 (.seq
 (.ops [om 7 2])
 (.ite (tm 7)
 (.seq
 (.ops [ow 8 (.load 43 (tm 4) (some 2)), ⟨none, none, .store 43 (tm 6) (tm 8) 2⟩]) .ret) .skip))
 (.seq
 (.ops [ow 9 (.faddr 43 (tm 3) 0 0), ow 10 (.load 3 (tm 9) none), ow 11 (.faddr 43 (tm 4) 0 0), ow 12 (.load 3 (tm 11) none), ow 13 (.min [3, 3] 3 [(tm 10), (tm 12)]), ow 14 (.faddr 43 (tm 3) 1 1), ow 15 (.load 3 (tm 14) none), ow 16 (.faddr 43 (tm 4) 1 1), ow 17 (.load 3 (tm 16) none), ow 18 (.max [3, 3] 3 [(tm 15), (tm 17)]), ow 19 (.build 43 [(0, (tm 13)), (1, (tm 18))] [(.int .i64 0), (.int .i64 0)] [(0, 1, (tm 13)), (1, 1, (tm 18))]), ⟨none, none, .store 43 (tm 6) (tm 19) 2⟩]) .ret)))
theorem fn69 : FnOK Tryz.prog 69 20 [.cell 6 43] L69 := ⟨Tryz.f69, Tryz.func69, by kernel_rfl, Tryz.ntmps69, by rw [Tryz.results69], by kernel_rfl⟩
def L71 : LCode :=
 (.seq
 (.ops [ow 2 (.mov (kc 0))])
 (.seq
 (.seq
 (.ops [ow 3 (.faddr 29 (tm 0) 2 4), ow 4 (.load 26 (tm 3) none), ow 5 (.len false 26 3 (tm 4)), ow 6 (.bin .sub 3 (tm 5) (kc 1)), ow 7 (.load 3 (tm 1) none), ow 8 (.bslice 34 1 [(0, (tm 7))] 3 1 [(.int .i64 0)]), ow 9 (.call 50 [(kc 0), (tm 6), (tm 8)] 4)])
 (.ite (tm 9)
 (.seq
 (.ops [ow 2 (.mov (kc 4))]) .ret) .skip))
 (.seq
 (.ops [ow 2 (.mov (kc 0))]) .ret)))
theorem fn71 : FnOK Tryz.prog 71 10 [.tmp 2] L71 := ⟨Tryz.f71, Tryz.func71, by kernel_rfl, Tryz.ntmps71, by rw [Tryz.results71], by kernel_rfl⟩
def L72 : LCode :=
 (.seq
 (.ops [ow 3 (.box 95 (tm 1)), ow 4 (.alloc 106 [(.int .i64 0), (.int .i64 0), (.int .i64 0), (.int .i64 0), (.int .i64 0), (.int .i64 0), (.int .i64 0), (.int .i64 0), (.int .i64 0), (.int .i64 0), (.int .i64 0), (.int .i64 0)]), ow 5 (.mov (.const (.bool false)))])
 (.seq
 (.seq
 (.dops [(om 17 0, []), (ow 18 (.nilck (tm 17)), [0]), (ow 19 (.faddr 158 (tm 18) 3 8), [1]), (ow 20 (.load 156 (tm 19) none), [2]), (ow 21 (.load 95 (tm 3) (some 6)), []), (ow 22 (.lookup 156 (tm 20) (tm 21) true 95 106 [(.int .i64 0), (.int .i64 0), (.int .i64 0), (.int .i64 0), (.int .i64 0), (.int .i64 0), (.int .i64 0), (.int .i64 0), (.int .i64 0), (.int .i64 0), (.int .i64 0), (.int .i64 0)]), [3, 4]), (om 16 22, [5]), (ow 23 (.extract (tm 16) 0), [6]), (ow 24 (.extract (tm 16) 1), [6]), (⟨none, none, .store 106 (tm 4) (tm 23) 12⟩, [7, 0, 1, 2, 3, 4, 5, 6, 7]), (om 5 24, [8, 9, 0, 1, 2, 3, 4, 5, 6, 7, 8, 9])])
 (.seq
 (.ops [om 25 5])
 (.ite (tm 25)
 (.seq
 (.ops [ow 26 (.load 106 (tm 4) (some 12)), ⟨none, none, .store 106 (tm 4) (tm 26) 12⟩, ow 5 (.mov (.const (.bool true)))]) .ret) .skip)))
 (.seq
 (.seq
 (.ops [ow 27 (.mov (kc 0))])
 (.block 0
 (.loop
 (.seq
 (.ops [ow 28 (.bin .lss 3 (tm 27) (kc 6))])
 (.seq
 (.ite (tm 28) .skip
 (.exit 0))
 (.seq
 (.block 1
 (.seq
 (.ops [om 29 27, om 6 29])
 (.ops [om 30 6, ow 31 (.build 43 [(1, (kc 199))] [(.int .i64 0), (.int .i64 0)] [(1, 1, (kc 199))]), ow 32 (.iaddrA 106 (tm 4) (tm 30) 6 2), ⟨none, none, .store 43 (tm 32) (tm 31) 2⟩])))
 (.ops [ow 33 (.bin .add 3 (tm 27) (kc 1)), om 27 33])))))))
 (.seq
 (.seq
 (.ops [om 34 0, ow 35 (.nilck (tm 34)), ow 36 (.faddr 158 (tm 35) 0 0), ow 37 (.faddr 29 (tm 36) 2 4), ow 38 (.load 26 (tm 37) none), ow 39 (.len false 26 3 (tm 38)), ow 40 (.mov (kc 0))])
 (.block 2
 (.loop
 (.seq
 (.ops [ow 41 (.bin .lss 3 (tm 40) (tm 39))])
 (.seq
 (.ite (tm 41) .skip
 (.exit 2))
 (.seq
 (.block 3
 (.seq
 (.ops [om 42 40, ow 43 (.iaddr 26 (tm 38) (tm 40) 5), ow 44 (.load 49 (tm 43) (some 5)), ow 8 (.alloc 49 [(.int .i64 0), (.int .i64 0), (.int .i64 0), (.int .i64 0), (.int .i64 0)]), om 7 42, ⟨none, none, .store 49 (tm 8) (tm 44) 5⟩])
 (.seq
 (.ops [om 45 7, ow 46 (.iaddrA 95 (tm 3) (tm 45) 6 1), ow 47 (.load 3 (tm 46) none), ow 48 (.iaddrA 106 (tm 4) (tm 47) 6 2), ow 49 (.load 43 (tm 48) (some 2)), ow 9 (.alloc 43 [(.int .i64 0), (.int .i64 0)]), ⟨none, none, .store 43 (tm 9) (tm 49) 2⟩])
 (.dops [(om 50 7, []), (ow 51 (.iaddrA 95 (tm 3) (tm 50) 6 1), [0]), (ow 52 (.load 3 (tm 51) none), [1]), (ow 53 (.faddr 43 (tm 9) 0 0), []), (ow 54 (.load 3 (tm 53) none), [3]), (ow 55 (.faddr 49 (tm 8) 2 2), []), (ow 56 (.faddr 43 (tm 55) 0 0), [5]), (ow 57 (.load 3 (tm 56) none), [6]), (ow 58 (.max [3, 3] 3 [(tm 54), (tm 57)]), [4, 7]), (ow 59 (.faddr 43 (tm 9) 1 1), []), (ow 60 (.load 3 (tm 59) none), [9]), (ow 61 (.faddr 49 (tm 8) 2 2), []), (ow 62 (.faddr 43 (tm 61) 1 1), [11]), (ow 63 (.load 3 (tm 62) none), [12]), (ow 64 (.min [3, 3] 3 [(tm 60), (tm 63)]), [10, 13]), (ow 65 (.build 43 [(0, (tm 58)), (1, (tm 64))] [(.int .i64 0), (.int .i64 0)] [(0, 1, (tm 58)), (1, 1, (tm 64))]), [8, 14]), (ow 66 (.iaddrA 106 (tm 4) (tm 52) 6 2), [2, 0, 1, 2, 3, 4, 5, 6, 7, 8, 9, 10, 11, 12, 13, 14, 15]), (⟨none, none, .store 43 (tm 66) (tm 65) 2⟩, [16, 15, 0, 1, 2, 3, 4, 5, 6, 7, 8, 9, 10, 11, 12, 13, 14, 15])]))))
 (.ops [ow 67 (.bin .add 3 (tm 40) (kc 1)), om 40 67])))))))
 (.seq
 (.ops [ow 68 (.mkfn (.func 112) [(tm 4)] []), om 10 68])
 (.seq
 (.seq
 (.ops [ow 11 (.mov (.const (.bool true)))])
 (.block 4
 (.loop
 (.seq
 (.seq
 (.ops [om 69 11])
 (.ite (tm 69) .skip
 (.exit 4)))
 (.block 5
 (.seq
 (.ops [ow 11 (.mov (.const (.bool false)))])
 (.seq
 (.seq
 (.ops [om 70 0, ow 71 (.nilck (tm 70)), ow 72 (.faddr 158 (tm 71) 0 0), ow 73 (.faddr 29 (tm 72) 2 4), ow 74 (.load 26 (tm 73) none), ow 75 (.len false 26 3 (tm 74)), ow 76 (.mov (kc 0))])
 (.block 6
 (.loop
 (.seq
 (.ops [ow 77 (.bin .lss 3 (tm 76) (tm 75))])
 (.seq
 (.ite (tm 77) .skip
 (.exit 6))
 (.seq
 (.block 7
 (.seq
 (.ops [om 78 76, ow 79 (.iaddr 26 (tm 74) (tm 76) 5), ow 80 (.load 49 (tm 79) (some 5)), ow 13 (.alloc 49 [(.int .i64 0), (.int .i64 0), (.int .i64 0), (.int .i64 0), (.int .i64 0)]), om 12 78, ⟨none, none, .store 49 (tm 13) (tm 80) 5⟩])
 (.seq
 (.dops [(ow 81 (.faddr 49 (tm 13) 3 4), []), (ow 82 (.load 3 (tm 81) none), [0]), (ow 83 (.bin .neq 3 (tm 82) (kc (-1))), [1]), (om 84 83, [2]), (oy 85 84 (.mov (tm 10)), [3]), (oy 86 84 (.faddr 49 (tm 13) 3 4), [3]), (oy 87 84 (.load 3 (tm 86) none), [5, 3]), (oy 88 84 (.iaddrA 95 (tm 3) (tm 87) 6 1), [6, 3]), (oy 89 84 (.load 3 (tm 88) none), [7, 3]), (oy 90 84 (.mov (tm 12)), [3]), (oy 91 84 (.iaddrA 95 (tm 3) (tm 90) 6 1), [9, 3]), (oy 92 84 (.load 3 (tm 91) none), [10, 3]), (oy 93 84 (.callv (tm 85) [(tm 89), (tm 92)] 4), [4, 8, 11, 3, 3]), (ow 94 (.pick (tm 84) (tm 93) (.const (.bool false))), [3, 12])])
 (.ite (tm 94)
 (.ops [ow 11 (.mov (.const (.bool true)))]) .skip))))
 (.ops [ow 95 (.bin .add 3 (tm 76) (kc 1)), om 76 95])))))))
 (.seq
 (.ops [ow 96 (.load 106 (tm 4) (some 12)), ow 97 (.mov (kc 0))])
 (.block 8
 (.loop
 (.seq
 (.ops [ow 98 (.bin .lss 3 (tm 97) (kc 6))])
 (.seq
 (.ite (tm 98) .skip
 (.exit 8))
 (.seq
 (.block 9
 (.seq
 (.ops [ow 99 (.indexA 106 (tm 96) (tm 97) 6 2 (some 2)), ow 15 (.alloc 43 [(.int .i64 0), (.int .i64 0)]), ⟨none, none, .store 43 (tm 15) (tm 99) 2⟩])
 (.seq
 (.ops [ow 100 (.faddr 43 (tm 15) 0 0), ow 101 (.load 3 (tm 100) none), ow 102 (.faddr 43 (tm 15) 1 1), ow 103 (.load 3 (tm 102) none), ow 104 (.bin .gtr 3 (tm 101) (tm 103))])
 (.ite (tm 104)
 (.seq
 (.ops [ow 105 (.load 106 (tm 4) (some 12)), ⟨none, none, .store 106 (tm 4) (tm 105) 12⟩, ow 5 (.mov (.const (.bool false)))]) .ret) .skip))))
 (.ops [ow 106 (.bin .add 3 (tm 97) (kc 1)), om 97 106]))))))))))))))
 (.seq
 (.dops [(om 107 0, []), (ow 108 (.nilck (tm 107)), [0]), (ow 109 (.faddr 158 (tm 108) 3 8), [1]), (ow 110 (.load 156 (tm 109) none), [2]), (ow 111 (.load 95 (tm 3) (some 6)), []), (ow 112 (.load 106 (tm 4) (some 12)), []), (⟨none, none, .mapup 156 (tm 110) (tm 111) (tm 112) 95 106⟩, [3, 4, 5, 0, 1, 2, 3, 4, 5])])
 (.seq
 (.ops [ow 113 (.load 106 (tm 4) (some 12)), ⟨none, none, .store 106 (tm 4) (tm 113) 12⟩, ow 5 (.mov (.const (.bool true)))]) .ret))))))))
theorem fn72 : FnOK Tryz.prog 72 114 [.cell 4 106, .tmp 5] L72 := ⟨Tryz.f72, Tryz.func72, by kernel_rfl, Tryz.ntmps72, by rw [Tryz.results72], by kernel_rfl⟩
def L75 : LCode :=
 (.seq
 (.ops [ow 2 (.box 29 (tm 0)), ow 4 (.mov (.const (.pointer none)))])
 (.seq
 (.ops [ow 5 (.load 29 (tm 2) (some 6)), om 6 1, ow 7 (.mmap 155), ow 8 (.mmap 156), ow 9 (.build 158 [(0, (tm 5)), (1, (tm 6)), (2, (tm 7)), (3, (tm 8))] [(.int .i64 0), (.slice none 0 0), (.slice none 0 0), (.int .i64 0), (.slice none 0 0), (.slice none 0 0), (.int .i64 0), (.map none), (.map none)] [(0, 6, (tm 5)), (6, 1, (tm 6)), (7, 1, (tm 7)), (8, 1, (tm 8))]), ow 10 (.box 158 (tm 9)), om 4 10]) .ret))
theorem fn75 : FnOK Tryz.prog 75 11 [.tmp 4] L75 := ⟨Tryz.f75, Tryz.func75, by kernel_rfl, Tryz.ntmps75, by rw [Tryz.results75], by kernel_rfl⟩
def L76 : LCode :=
 (.seq
 (.ops [ow 6 (.mov (kc 0))])
 (.seq
 (.seq
 (.ops [ow 9 (.call 115 [] 161), ow 10 (.len false 161 3 (tm 9)), ow 11 (.mov (kc 0))])
 (.block 0
 (.loop
 (.seq
 (.ops [ow 12 (.bin .lss 3 (tm 11) (tm 10))])
 (.seq
 (.ite (tm 12) .skip
 (.exit 0))
 (.seq
 (.block 1
 (.seq
 (.ops [ow 13 (.iaddr 161 (tm 9) (tm 11) 2), ow 14 (.load 165 (tm 13) (some 2)), ow 8 (.alloc 165 [(.int .i64 0), .nilFunc]), ⟨none, none, .store 165 (tm 8) (tm 14) 2⟩])
 (.seq
 (.ops [ow 15 (.faddr 165 (tm 8) 1 1), ow 16 (.load 163 (tm 15) none), om 17 0, om 18 1, om 19 2, ow 20 (.callv (tm 16) [(tm 17), (tm 18), (tm 19)] 4)])
 (.ite (tm 20)
 (.seq
 (.ops [ow 21 (.faddr 165 (tm 8) 0 0), ow 22 (.load 3 (tm 21) none), om 6 22]) .ret) .skip))))
 (.ops [ow 23 (.bin .add 3 (tm 11) (kc 1)), om 11 23])))))))
 (.seq
 (.ops [ow 6 (.mov (kc 0))]) .ret)))
theorem fn76 : FnOK Tryz.prog 76 24 [.tmp 6] L76 := ⟨Tryz.f76, Tryz.func76, by kernel_rfl, Tryz.ntmps76, by rw [Tryz.results76], by kernel_rfl⟩
def L77 : LCode :=
 (.seq
 (.ops [ow 2 (.mov (kc 0))])
 (.seq
 (.ops [ow 3 (.load 29 (tm 0) (some 6)), ow 4 (.faddr 29 (tm 0) 2 4), ow 5 (.load 26 (tm 4) none), ow 6 (.len false 26 3 (tm 5)), ow 7 (.load 49 (tm 1) (some 5)), ow 8 (.call 53 [(tm 3), (tm 6), (tm 7)] 31), om 2 8]) .ret))
theorem fn77 : FnOK Tryz.prog 77 9 [.tmp 2] L77 := ⟨Tryz.f77, Tryz.func77, by kernel_rfl, Tryz.ntmps77, by rw [Tryz.results77], by kernel_rfl⟩
def L78 : LCode :=
 (.seq
 (.ops [ow 2 (.mov (.const (.slice none 0 0)))])
 (.seq
 (.seq
 (.ops [om 3 0, ow 4 (.eqT false 26 (tm 3) (.const (.slice none 0 0)))])
 (.ite (tm 4)
 (.seq
 (.ops [ow 2 (.mov (.const (.slice none 0 0)))]) .ret) .skip))
 (.seq
 (.ops [ow 5 (.bslice 26 0 [] 49 5 [(.int .i64 0), (.int .i64 0), (.int .i64 0), (.int .i64 0), (.int .i64 0)]), om 6 0, ow 7 (.append 26 26 (tm 5) (tm 6) 49 5 40 [(.int .i64 0), (.int .i64 0), (.int .i64 0), (.int .i64 0), (.int .i64 0)]), om 2 7]) .ret)))
theorem fn78 : FnOK Tryz.prog 78 8 [.tmp 2] L78 := ⟨Tryz.f78, Tryz.func78, by kernel_rfl, Tryz.ntmps78, by rw [Tryz.results78], by kernel_rfl⟩
def L79 : LCode :=
 (.seq
 (.ops [ow 4 (.mov (.const (.slice none 0 0)))])
 (.seq
 (.seq
 (.ops [om 6 1, ow 7 (.mov (kc 0))])
 (.block 0
 (.loop
 (.seq
 (.ops [ow 8 (.bin .lss 3 (tm 7) (tm 6))])
 (.seq
 (.ite (tm 8) .skip
 (.exit 0))
 (.seq
 (.block 1
 (.seq
 (.ops [om 9 7, om 5 9])
 (.seq
 (.ops [om 10 0, om 11 5, ow 12 (.bin .shr 3 (tm 10) (tm 11)), ow 13 (.bin .and 3 (tm 12) (kc 1)), ow 14 (.bin .eql 3 (tm 13) (kc 1))])
 (.ite (tm 14)
 (.ops [om 15 4, om 16 5, ow 17 (.bslice 34 1 [(0, (tm 16))] 3 1 [(.int .i64 0)]), ow 18 (.append 34 34 (tm 15) (tm 17) 3 1 8 [(.int .i64 0)]), om 4 18]) .skip))))
 (.ops [ow 19 (.bin .add 3 (tm 7) (kc 1)), om 7 19])))))))
 (.seq
 (.ops [om 20 4, om 4 20]) .ret)))
theorem fn79 : FnOK Tryz.prog 79 21 [.tmp 4] L79 := ⟨Tryz.f79, Tryz.func79, by kernel_rfl, Tryz.ntmps79, by rw [Tryz.results79], by kernel_rfl⟩
def L80 : LCode :=
 (.seq
 (.ops [ow 4 (.mov (kc 0))])
 (.seq
 (.seq
 (.ops [om 9 0, ow 10 (.len false 34 3 (tm 9)), ow 11 (.mov (kc 0))])
 (.block 0
 (.loop
 (.seq
 (.ops [ow 12 (.bin .lss 3 (tm 11) (tm 10))])
 (.seq
 (.ite (tm 12) .skip
 (.exit 0))
 (.seq
 (.block 1
 (.seq
 (.ops [om 13 11, ow 14 (.iaddr 34 (tm 9) (tm 11) 1), ow 15 (.load 3 (tm 14) none), om 5 13, om 6 15])
 (.seq
 (.seq
 (.ops [om 16 5, om 17 1, ow 18 (.len false 34 3 (tm 17)), ow 19 (.bin .geq 3 (tm 16) (tm 18))])
 (.ite (tm 19)
 (.seq
 (.ops [ow 4 (.mov (kc 1))]) .ret) .skip))
 (.seq
 (.ops [om 20 1, om 21 5, ow 22 (.iaddr 34 (tm 20) (tm 21) 1), ow 23 (.load 3 (tm 22) none), om 7 23])
 (.seq
 (.ops [om 24 6, om 25 7, ow 26 (.call 116 [(tm 24), (tm 25)] 3), om 8 26])
 (.seq
 (.ops [om 27 8, ow 28 (.bin .neq 3 (tm 27) (kc 0))])
 (.ite (tm 28)
 (.seq
 (.ops [om 29 8, om 4 29]) .ret) .skip)))))))
 (.ops [ow 30 (.bin .add 3 (tm 11) (kc 1)), om 11 30])))))))
 (.seq
 (.seq
 (.ops [om 31 0, ow 32 (.len false 34 3 (tm 31)), om 33 1, ow 34 (.len false 34 3 (tm 33)), ow 35 (.bin .lss 3 (tm 32) (tm 34))])
 (.ite (tm 35)
 (.seq
 (.ops [ow 4 (.mov (kc (-1)))]) .ret) .skip))
 (.seq
 (.ops [ow 4 (.mov (kc 0))]) .ret))))
theorem fn80 : FnOK Tryz.prog 80 36 [.tmp 4] L80 := ⟨Tryz.f80, Tryz.func80, by kernel_rfl, Tryz.ntmps80, by rw [Tryz.results80], by kernel_rfl⟩
def L81 : LCode :=
 (.seq
 (.ops [ow 2 (.alloc 4 [(.bool false)])])
 (.seq
 (.seq
 (.ops [om 3 0, ow 4 (.call 60 [(tm 3)] 92)])
 (.block 0
 (.rfun (tm 4) [5, 6] .skip
 (.block 1
 (.seq
 (.ops [⟨none, none, .store 4 (tm 2) (.const (.bool true)) 1⟩]) .ret)))))
 (.seq
 (.ops [⟨none, none, .store 4 (tm 2) (.const (.bool false)) 1⟩]) .ret)))
theorem fn81 : FnOK Tryz.prog 81 7 [.cell 2 4] L81 := ⟨Tryz.f81, Tryz.func81, by kernel_rfl, Tryz.ntmps81, by rw [Tryz.results81], by kernel_rfl⟩
def L87 : LCode :=
 (.seq
 (.ops [ow 3 (.box 3 (tm 0)), ow 4 (.box 3 (tm 1)), ow 6 (.mov (.const (.bool false)))])
 (.seq
 (.ops [om 7 2, ow 8 (.mkfn (.func 121) [] [(tm 3), (tm 4)]), ow 9 (.call 99 [(tm 7), (tm 8)] 4), om 6 9]) .ret))
theorem fn87 : FnOK Tryz.prog 87 10 [.tmp 6] L87 := ⟨Tryz.f87, Tryz.func87, by kernel_rfl, Tryz.ntmps87, by rw [Tryz.results87], by kernel_rfl⟩
def L88 : LCode :=
 (.seq
 (.ops [ow 4 (.mov (kc 0)), ow 5 (.mov (kc 0))])
 (.seq
 (.seq
 (.ops [om 9 0, ow 10 (.len false 22 3 (tm 9)), ow 11 (.mov (kc 0))])
 (.block 0
 (.loop
 (.seq
 (.ops [ow 12 (.bin .lss 3 (tm 11) (tm 10))])
 (.seq
 (.ite (tm 12) .skip
 (.exit 0))
 (.seq
 (.block 1
 (.seq
 (.ops [om 13 11, ow 14 (.iaddr 22 (tm 9) (tm 11) 2), ow 15 (.load 125 (tm 14) (some 2)), ow 7 (.alloc 125 [(.string ⟨#[]⟩), (.slice none 0 0)]), om 6 13, ⟨none, none, .store 125 (tm 7) (tm 15) 2⟩])
 (.seq
 (.ops [om 16 1, om 17 6, ow 18 (.load 125 (tm 7) (some 2)), ow 19 (.callv (tm 16) [(tm 17), (tm 18)] 31), om 8 19])
 (.seq
 (.ops [om 20 8, ow 21 (.bin .neq 31 (tm 20) (kc 0))])
 (.ite (tm 21)
 (.seq
 (.ops [om 22 6, om 23 8, om 4 22, om 5 23]) .ret) .skip)))))
 (.ops [ow 24 (.bin .add 3 (tm 11) (kc 1)), om 11 24])))))))
 (.seq
 (.ops [ow 4 (.mov (kc 0)), ow 5 (.mov (kc 0))]) .ret)))
theorem fn88 : FnOK Tryz.prog 88 25 [.tmp 4, .tmp 5] L88 := ⟨Tryz.f88, Tryz.func88, by kernel_rfl, Tryz.ntmps88, by rw [Tryz.results88], by kernel_rfl⟩
def L89 : LCode :=
 (.seq
 (.ops [ow 4 (.box 125 (tm 1)), ow 5 (.mov (kc 0))])
 (.seq
 (.block 0
 (.seq
 (.ops [ow 9 (.faddr 125 (tm 4) 0 0), ow 10 (.load 9 (tm 9) none), ow 11 (.call 90 [(tm 10)] 4), ow 12 (.un .not (tm 11)), om 8 12])
 (.ite (tm 8)
 (.seq
 (.ops [ow 5 (.mov (kc 6))]) .ret)
 (.seq
 (.ops [ow 14 (.faddr 25 (tm 2) 1 1), ow 15 (.load 22 (tm 14) none), om 16 0, ow 17 (.sliceE 22 (tm 15) none (some (tm 16)) none 2), ow 18 (.mkfn (.func 92) [] [(tm 4)]), ow 19 (.call 91 [(tm 17), (tm 18)] 4), om 13 19])
 (.ite (tm 13)
 (.seq
 (.ops [ow 5 (.mov (kc 5))]) .ret)
 (.seq
 (.ops [ow 21 (.faddr 125 (tm 4) 1 1), ow 22 (.load 123 (tm 21) none), ow 23 (.len false 123 3 (tm 22)), ow 24 (.bslice 34 1 [(0, (tm 23))] 3 1 [(.int .i64 0)]), ow 25 (.call 87 [(kc 1), (kc 6), (tm 24)] 4), om 20 25])
 (.ite (tm 20)
 (.seq
 (.ops [ow 5 (.mov (kc 3))]) .ret) .skip)))))))
 (.seq
 (.ops [ow 27 (.faddr 125 (tm 4) 1 1), ow 28 (.load 123 (tm 27) none), ow 29 (.mkfn (.func 94) [] [(tm 2), (tm 4)]), ow 30 (.call 93 [(tm 28), (tm 29)] 38), om 26 30, ow 31 (.extract (tm 26) 0), ow 32 (.extract (tm 26) 1), om 6 31, om 7 32])
 (.seq
 (.ops [om 33 7, om 5 33]) .ret))))
theorem fn89 : FnOK Tryz.prog 89 34 [.tmp 5] L89 := ⟨Tryz.f89, Tryz.func89, by kernel_rfl, Tryz.ntmps89, by rw [Tryz.results89], by kernel_rfl⟩
def L90 : LCode :=
 (.seq
 (.ops [ow 2 (.mov (.const (.bool false)))])
 (.seq
 (.seq
 (.ops [om 6 0, ow 7 (.range 9 (tm 6) true)])
 (.block 0
 (.loop
 (.seq
 (.ops [ow 8 (.next (tm 7) true 0), ow 9 (.extract (tm 8) 0)])
 (.seq
 (.ite (tm 9) .skip
 (.exit 0))
 (.block 1
 (.seq
 (.ops [ow 10 (.extract (tm 8) 1), ow 11 (.extract (tm 8) 2), om 3 10, om 4 11])
 (.seq
 (.ops [om 12 4, ow 13 (.bin .geq 21 (tm 12) (.const (.int .i32 97))), om 14 13, oy 15 14 (.mov (tm 4)), oy 16 14 (.bin .leq 21 (tm 15) (.const (.int .i32 122))), ow 17 (.pick (tm 14) (tm 16) (.const (.bool false))), om 5 17])
 (.seq
 (.ops [om 18 5, ow 19 (.un .not (tm 18)), om 20 19, oy 21 20 (.mov (tm 3)), oy 22 20 (.bin .eql 3 (tm 21) (kc 0)), oy 23 20 (.mov (tm 22)), oz 24 23 (.mov (tm 4)), oz 25 23 (.bin .neq 21 (tm 24) (.const (.int .i32 46))), oz 26 23 (.mov (tm 25)), oy 27 26 (.mov (tm 4)), oy 28 26 (.bin .lss 21 (tm 27) (.const (.int .i32 48))), oy 29 26 (.mov (tm 28)), oz 30 29 (.mov (tm 4)), oz 31 29 (.bin .gtr 21 (tm 30) (.const (.int .i32 57))), oy 32 26 (.pick (tm 29) (.const (.bool true)) (tm 31)), oz 33 23 (.pick (tm 26) (tm 32) (.const (.bool false))), oy 34 20 (.pick (tm 23) (.const (.bool true)) (tm 33)), ow 35 (.pick (tm 20) (tm 34) (.const (.bool false)))])
 (.ite (tm 35)
 (.seq
 (.ops [ow 2 (.mov (.const (.bool false)))]) .ret) .skip))))))))))
 (.seq
 (.ops [om 36 0, ow 37 (.len true 9 3 (tm 36)), ow 38 (.bslice 34 1 [(0, (tm 37))] 3 1 [(.int .i64 0)]), ow 39 (.call 87 [(kc 1), (kc 16), (tm 38)] 4), ow 40 (.un .not (tm 39)), om 2 40]) .ret)))
theorem fn90 : FnOK Tryz.prog 90 41 [.tmp 2] L90 := ⟨Tryz.f90, Tryz.func90, by kernel_rfl, Tryz.ntmps90, by rw [Tryz.results90], by kernel_rfl⟩
def L91 : LCode :=
 (.seq
 (.ops [ow 4 (.mov (.const (.bool false)))])
 (.seq
 (.ops [om 5 0, om 6 1, ow 7 (.call 122 [(tm 5), (tm 6)] 3), ow 8 (.bin .geq 3 (tm 7) (kc 0)), om 4 8]) .ret))
theorem fn91 : FnOK Tryz.prog 91 9 [.tmp 4] L91 := ⟨Tryz.f91, Tryz.func91, by kernel_rfl, Tryz.ntmps91, by rw [Tryz.results91], by kernel_rfl⟩
def L92 : LCode :=
 (.seq
 (.ops [ow 2 (.box 125 (tm 0)), ow 3 (.mov (.const (.bool false)))])
 (.seq
 (.ops [ow 4 (.faddr 125 (tm 2) 0 0), ow 5 (.load 9 (tm 4) none), ow 6 (.faddr 125 (tm 1) 0 0), ow 7 (.load 9 (tm 6) none), ow 8 (.bin .eql 9 (tm 5) (tm 7)), om 3 8]) .ret))
theorem fn92 : FnOK Tryz.prog 92 9 [.tmp 3] L92 := ⟨Tryz.f92, Tryz.func92, by kernel_rfl, Tryz.ntmps92, by rw [Tryz.results92], by kernel_rfl⟩
def L93 : LCode :=
 (.seq
 (.ops [ow 4 (.mov (kc 0)), ow 5 (.mov (kc 0))])
 (.seq
 (.seq
 (.ops [om 9 0, ow 10 (.len false 123 3 (tm 9)), ow 11 (.mov (kc 0))])
 (.block 0
 (.loop
 (.seq
 (.ops [ow 12 (.bin .lss 3 (tm 11) (tm 10))])
 (.seq
 (.ite (tm 12) .skip
 (.exit 0))
 (.seq
 (.block 1
 (.seq
 (.ops [om 13 11, ow 14 (.iaddr 123 (tm 9) (tm 11) 3), ow 15 (.load 131 (tm 14) (some 3)), ow 7 (.alloc 131 [(.int .u8 0), (.int .i64 0), (.bool false)]), om 6 13, ⟨none, none, .store 131 (tm 7) (tm 15) 3⟩])
 (.seq
 (.ops [om 16 1, om 17 6, ow 18 (.load 131 (tm 7) (some 3)), ow 19 (.callv (tm 16) [(tm 17), (tm 18)] 31), om 8 19])
 (.seq
 (.ops [om 20 8, ow 21 (.bin .neq 31 (tm 20) (kc 0))])
 (.ite (tm 21)
 (.seq
 (.ops [om 22 6, om 23 8, om 4 22, om 5 23]) .ret) .skip)))))
 (.ops [ow 24 (.bin .add 3 (tm 11) (kc 1)), om 11 24])))))))
 (.seq
 (.ops [ow 4 (.mov (kc 0)), ow 5 (.mov (kc 0))]) .ret)))
theorem fn93 : FnOK Tryz.prog 93 25 [.tmp 4, .tmp 5] L93 := ⟨Tryz.f93, Tryz.func93, by kernel_rfl, Tryz.ntmps93, by rw [Tryz.results93], by kernel_rfl⟩
def L94 : LCode :=
 (.seq
 (.ops [ow 5 (.box 131 (tm 1)), ow 6 (.mov (kc 0))])
 (.seq
 (.seq
 (.ops [ow 9 (.faddr 25 (tm 2) 0 0), ow 10 (.load 3 (tm 9) none), ow 11 (.call 95 [(tm 10)] 132), ow 12 (.len false 132 3 (tm 11)), ow 13 (.mov (kc 0))])
 (.block 0
 (.loop
 (.seq
 (.ops [ow 14 (.bin .lss 3 (tm 13) (tm 12))])
 (.seq
 (.ite (tm 14) .skip
 (.exit 0))
 (.seq
 (.block 1
 (.seq
 (.ops [ow 15 (.iaddr 132 (tm 11) (tm 13) 2), ow 16 (.load 136 (tm 15) (some 2)), ow 8 (.alloc 136 [(.int .i64 0), .nilFunc]), ⟨none, none, .store 136 (tm 8) (tm 16) 2⟩])
 (.seq
 (.ops [ow 17 (.faddr 136 (tm 8) 1 1), ow 18 (.load 134 (tm 17) none), ow 19 (.faddr 125 (tm 3) 1 1), ow 20 (.load 123 (tm 19) none), om 21 0, ow 22 (.callv (tm 18) [(tm 20), (tm 21)] 4)])
 (.ite (tm 22)
 (.seq
 (.ops [ow 23 (.faddr 136 (tm 8) 0 0), ow 24 (.load 31 (tm 23) none), om 6 24]) .ret) .skip))))
 (.ops [ow 25 (.bin .add 3 (tm 13) (kc 1)), om 13 25])))))))
 (.seq
 (.ops [ow 6 (.mov (kc 0))]) .ret)))
theorem fn94 : FnOK Tryz.prog 94 26 [.tmp 6] L94 := ⟨Tryz.f94, Tryz.func94, by kernel_rfl, Tryz.ntmps94, by rw [Tryz.results94], by kernel_rfl⟩
def L95 : LCode :=
 (.seq
 (.ops [ow 1 (.box 3 (tm 0)), ow 2 (.mov (.const (.slice none 0 0)))])
 (.seq
 (.ops [ow 3 (.build 136 [(0, (kc 6)), (1, (.func 123))] [(.int .i64 0), .nilFunc] [(0, 1, (kc 6)), (1, 1, (.func 123))]), ow 4 (.build 136 [(0, (kc 5)), (1, (.func 124))] [(.int .i64 0), .nilFunc] [(0, 1, (kc 5)), (1, 1, (.func 124))]), ow 5 (.mkfn (.func 125) [] [(tm 1)]), ow 6 (.build 136 [(0, (kc 7)), (1, (tm 5))] [(.int .i64 0), .nilFunc] [(0, 1, (kc 7)), (1, 1, (tm 5))]), ow 7 (.build 136 [(0, (kc 2)), (1, (.func 126))] [(.int .i64 0), .nilFunc] [(0, 1, (kc 2)), (1, 1, (.func 126))]), ow 8 (.bslice 132 4 [(0, (tm 3)), (1, (tm 4)), (2, (tm 6)), (3, (tm 7))] 136 2 [(.int .i64 0), .nilFunc]), om 2 8]) .ret))
theorem fn95 : FnOK Tryz.prog 95 9 [.tmp 2] L95 := ⟨Tryz.f95, Tryz.func95, by kernel_rfl, Tryz.ntmps95, by rw [Tryz.results95], by kernel_rfl⟩
def L96 : LCode :=
 (.seq
 (.ops [ow 4 (.mov (kc 0)), ow 5 (.mov (kc 0))])
 (.seq
 (.seq
 (.ops [om 9 0, ow 10 (.len false 23 3 (tm 9)), ow 11 (.mov (kc 0))])
 (.block 0
 (.loop
 (.seq
 (.ops [ow 12 (.bin .lss 3 (tm 11) (tm 10))])
 (.seq
 (.ite (tm 12) .skip
 (.exit 0))
 (.seq
 (.block 1
 (.seq
 (.ops [om 13 11, ow 14 (.iaddr 23 (tm 9) (tm 11) 2), ow 15 (.load 141 (tm 14) (some 2)), ow 7 (.alloc 141 [(.int .i64 0), (.string ⟨#[]⟩)]), om 6 13, ⟨none, none, .store 141 (tm 7) (tm 15) 2⟩])
 (.seq
 (.ops [om 16 1, om 17 6, ow 18 (.load 141 (tm 7) (some 2)), ow 19 (.callv (tm 16) [(tm 17), (tm 18)] 31), om 8 19])
 (.seq
 (.ops [om 20 8, ow 21 (.bin .neq 31 (tm 20) (kc 0))])
 (.ite (tm 21)
 (.seq
 (.ops [om 22 6, om 23 8, om 4 22, om 5 23]) .ret) .skip)))))
 (.ops [ow 24 (.bin .add 3 (tm 11) (kc 1)), om 11 24])))))))
 (.seq
 (.ops [ow 4 (.mov (kc 0)), ow 5 (.mov (kc 0))]) .ret)))
theorem fn96 : FnOK Tryz.prog 96 25 [.tmp 4, .tmp 5] L96 := ⟨Tryz.f96, Tryz.func96, by kernel_rfl, Tryz.ntmps96, by rw [Tryz.results96], by kernel_rfl⟩
def L97 : LCode :=
 (.seq
 (.ops [ow 4 (.box 141 (tm 1)), ow 5 (.mov (kc 0))])
 (.seq
 (.block 0
 (.seq
 (.ops [ow 8 (.faddr 25 (tm 2) 1 1), ow 9 (.load 22 (tm 8) none), ow 10 (.len false 22 3 (tm 9)), ow 11 (.bin .sub 3 (tm 10) (kc 1)), ow 12 (.faddr 141 (tm 4) 0 0), ow 13 (.load 3 (tm 12) none), ow 14 (.bslice 34 1 [(0, (tm 13))] 3 1 [(.int .i64 0)]), ow 15 (.call 87 [(kc 0), (tm 11), (tm 14)] 4), om 7 15])
 (.ite (tm 7)
 (.seq
 (.ops [ow 5 (.mov (kc 4))]) .ret)
 (.seq
 (.ops [ow 17 (.faddr 141 (tm 4) 1 1), ow 18 (.load 9 (tm 17) none), ow 19 (.len true 9 3 (tm 18)), ow 20 (.bslice 34 1 [(0, (tm 19))] 3 1 [(.int .i64 0)]), ow 21 (.call 87 [(kc 1), (kc 5), (tm 20)] 4), om 16 21])
 (.ite (tm 16)
 (.seq
 (.ops [ow 5 (.mov (kc 3))]) .ret) .skip)))))
 (.seq
 (.seq
 (.ops [ow 22 (.faddr 141 (tm 4) 1 1), ow 23 (.load 9 (tm 22) none), ow 24 (.len true 9 3 (tm 23)), ow 25 (.mov (kc 0))])
 (.block 1
 (.loop
 (.seq
 (.ops [ow 26 (.bin .lss 3 (tm 25) (tm 24))])
 (.seq
 (.ite (tm 26) .skip
 (.exit 1))
 (.seq
 (.block 2
 (.seq
 (.ops [om 27 25, om 6 27])
 (.seq
 (.dops [(ow 28 (.faddr 25 (tm 2) 1 1), []), (ow 29 (.load 22 (tm 28) none), [0]), (ow 30 (.faddr 141 (tm 4) 0 0), []), (ow 31 (.load 3 (tm 30) none), [2]), (ow 32 (.iaddr 22 (tm 29) (tm 31) 2), [1, 3]), (ow 33 (.faddr 125 (tm 32) 1 1), [4]), (ow 34 (.load 123 (tm 33) none), [5]), (ow 35 (.faddr 141 (tm 4) 1 1), []), (ow 36 (.load 9 (tm 35) none), [7]), (om 37 6, []), (ow 38 (.indexS 9 (tm 36) (tm 37)), [8, 9]), (ow 39 (.call 98 [(tm 34), (tm 38)] 3), [6, 10]), (ow 40 (.bin .lss 3 (tm 39) (kc 0)), [11])])
 (.ite (tm 40)
 (.seq
 (.ops [ow 5 (.mov (kc 6))]) .ret) .skip))))
 (.ops [ow 41 (.bin .add 3 (tm 25) (kc 1)), om 25 41])))))))
 (.seq
 (.ops [ow 5 (.mov (kc 0))]) .ret))))
theorem fn97 : FnOK Tryz.prog 97 42 [.tmp 5] L97 := ⟨Tryz.f97, Tryz.func97, by kernel_rfl, Tryz.ntmps97, by rw [Tryz.results97], by kernel_rfl⟩
def L98 : LCode :=
 (.seq
 (.ops [ow 3 (.box 5 (tm 1)), ow 4 (.mov (kc 0))])
 (.seq
 (.ops [om 5 0, ow 6 (.mkfn (.func 128) [] [(tm 3)]), ow 7 (.call 127 [(tm 5), (tm 6)] 3), om 4 7]) .ret))
theorem fn98 : FnOK Tryz.prog 98 8 [.tmp 4] L98 := ⟨Tryz.f98, Tryz.func98, by kernel_rfl, Tryz.ntmps98, by rw [Tryz.results98], by kernel_rfl⟩
def L99 : LCode :=
 (.seq
 (.ops [ow 4 (.mov (.const (.bool false)))])
 (.seq
 (.ops [om 5 0, om 6 1, ow 7 (.call 129 [(tm 5), (tm 6)] 3), ow 8 (.bin .geq 3 (tm 7) (kc 0)), om 4 8]) .ret))
theorem fn99 : FnOK Tryz.prog 99 9 [.tmp 4] L99 := ⟨Tryz.f99, Tryz.func99, by kernel_rfl, Tryz.ntmps99, by rw [Tryz.results99], by kernel_rfl⟩
def L100 : LCode :=
 (.seq
 (.ops [ow 4 (.mov (.const (.bool false)))])
 (.seq
 (.ops [om 5 0, ow 6 (.load 3 (tm 1) none), ow 7 (.bin .lss 3 (tm 5) (tm 6)), om 8 7, oz 9 8 (.mov (tm 0)), oz 10 8 (.load 3 (tm 2) none), oz 11 8 (.bin .gtr 3 (tm 9) (tm 10)), ow 12 (.pick (tm 8) (.const (.bool true)) (tm 11)), om 4 12]) .ret))
theorem fn100 : FnOK Tryz.prog 100 13 [.tmp 4] L100 := ⟨Tryz.f100, Tryz.func100, by kernel_rfl, Tryz.ntmps100, by rw [Tryz.results100], by kernel_rfl⟩
def L105 : LCode :=
 (.seq
 (.ops [ow 2 (.box 151 (tm 0))])
 (.seq
 (.ops [ow 3 (.alloc 95 [(.int .i64 0), (.int .i64 0), (.int .i64 0), (.int .i64 0), (.int .i64 0), (.int .i64 0)])])
 (.seq
 (.ops [ow 6 (.load 87 (tm 1) none), ow 7 (.call 106 [(tm 6)] 92)])
 (.block 0
 (.rfun (tm 7) [8, 9]
 (.seq
 (.ops [ow 4 (.alloc 95 [(.int .i64 0), (.int .i64 0), (.int .i64 0), (.int .i64 0), (.int .i64 0), (.int .i64 0)]), ⟨none, none, .store 95 (tm 4) (tm 8) 6⟩])
 (.ops [om 5 9]))
 (.block 1
 (.seq
 (.seq
 (.ops [ow 10 (.load 95 (tm 4) (some 6)), ow 11 (.load 95 (tm 3) (some 6)), ow 12 (.eqT false 95 (tm 10) (tm 11)), om 13 12, oy 14 13 (.mov (tm 5)), oy 15 13 (.bin .gtr 3 (tm 14) (kc 1)), ow 16 (.pick (tm 13) (tm 15) (.const (.bool false))), om 17 16, oz 18 17 (.load 87 (tm 1) none), oz 19 17 (.load 95 (tm 4) (some 6)), oz 20 17 (.call 107 [(tm 18), (tm 19)] 4), oz 21 17 (.un .not (tm 20)), ow 22 (.pick (tm 17) (.const (.bool true)) (tm 21)), om 23 22, oz 24 23 (.load 87 (tm 1) none), oz 25 23 (.load 95 (tm 4) (some 6)), oz 26 23 (.call 108 [(tm 24), (tm 25)] 4), oz 27 23 (.un .not (tm 26)), ow 28 (.pick (tm 23) (.const (.bool true)) (tm 27))])
 (.ite (tm 28)
 (.exit 1) .skip))
 (.seq
 (.seq
 (.ops [ow 29 (.load 151 (tm 2) none), ow 30 (.load 95 (tm 4) (some 6)), om 31 5, ow 32 (.callv (tm 29) [(tm 30), (tm 31)] 4), ow 33 (.un .not (tm 32))])
 (.ite (tm 33) .ret .skip))
 (.ops [ow 34 (.load 95 (tm 4) (some 6)), ⟨none, none, .store 95 (tm 3) (tm 34) 6⟩])))))))))
theorem fn105 : FnOK Tryz.prog 105 35 [] L105 := ⟨Tryz.f105, Tryz.func105, by kernel_rfl, Tryz.ntmps105, by rw [Tryz.results105], by kernel_rfl⟩
def L106 : LCode :=
 (.seq
 (.ops [ow 1 (.box 87 (tm 0)), ow 2 (.mov (.const .nilFunc))])
 (.seq
 (.ops [ow 3 (.mkfn (.func 134) [] [(tm 1)]), om 2 3]) .ret))
theorem fn106 : FnOK Tryz.prog 106 4 [.tmp 2] L106 := ⟨Tryz.f106, Tryz.func106, by kernel_rfl, Tryz.ntmps106, by rw [Tryz.results106], by kernel_rfl⟩
def L107 : LCode :=
 (.seq
 (.ops [ow 3 (.box 95 (tm 1)), ow 4 (.mov (.const (.bool false)))])
 (.seq
 (.ops [ow 5 (.alloc 95 [(.int .i64 0), (.int .i64 0), (.int .i64 0), (.int .i64 0), (.int .i64 0), (.int .i64 0)])])
 (.seq
 (.seq
 (.ops [om 10 0, ow 11 (.nilck (tm 10)), ow 12 (.faddr 158 (tm 11) 0 0), ow 13 (.faddr 29 (tm 12) 2 4), ow 14 (.load 26 (tm 13) none), ow 15 (.len false 26 3 (tm 14)), ow 16 (.mov (kc 0))])
 (.block 0
 (.loop
 (.seq
 (.ops [ow 17 (.bin .lss 3 (tm 16) (tm 15))])
 (.seq
 (.ite (tm 17) .skip
 (.exit 0))
 (.seq
 (.block 1
 (.seq
 (.ops [om 18 16, ow 19 (.iaddr 26 (tm 14) (tm 16) 5), ow 20 (.load 49 (tm 19) (some 5)), ow 7 (.alloc 49 [(.int .i64 0), (.int .i64 0), (.int .i64 0), (.int .i64 0), (.int .i64 0)]), om 6 18, ⟨none, none, .store 49 (tm 7) (tm 20) 5⟩])
 (.dops [(om 21 6, []), (ow 22 (.iaddrA 95 (tm 3) (tm 21) 6 1), [0]), (ow 23 (.load 3 (tm 22) none), [1]), (ow 24 (.iaddrA 95 (tm 5) (tm 23) 6 1), [2]), (ow 25 (.load 3 (tm 24) none), [3]), (ow 26 (.faddr 49 (tm 7) 0 0), []), (ow 27 (.load 3 (tm 26) none), [5]), (ow 28 (.bin .shl 3 (kc 1) (tm 27)), [6]), (ow 29 (.bin .or 3 (tm 25) (tm 28)), [4, 7]), (ow 30 (.iaddrA 95 (tm 5) (tm 23) 6 1), [2, 0, 1, 2, 3, 4, 5, 6, 7, 8]), (⟨none, none, .store 3 (tm 30) (tm 29) 1⟩, [9, 8, 0, 1, 2, 3, 4, 5, 6, 7, 8])])))
 (.ops [ow 31 (.bin .add 3 (tm 16) (kc 1)), om 16 31])))))))
 (.seq
 (.seq
 (.ops [ow 32 (.load 95 (tm 5) (some 6)), ow 33 (.mov (kc 0))])
 (.block 2
 (.loop
 (.seq
 (.ops [ow 34 (.bin .lss 3 (tm 33) (kc 6))])
 (.seq
 (.ite (tm 34) .skip
 (.exit 2))
 (.seq
 (.block 3
 (.seq
 (.ops [ow 35 (.indexA 95 (tm 32) (tm 33) 6 1 none), om 9 35])
 (.seq
 (.ops [om 36 9, ow 37 (.bin .neq 3 (tm 36) (kc 0)), om 38 37, oy 39 38 (.mov (tm 0)), oy 40 38 (.mov (tm 9)), oy 41 38 (.call 137 [(tm 39), (tm 40)] 4), oy 42 38 (.un .not (tm 41)), ow 43 (.pick (tm 38) (tm 42) (.const (.bool false)))])
 (.ite (tm 43)
 (.seq
 (.ops [ow 4 (.mov (.const (.bool false)))]) .ret) .skip))))
 (.ops [ow 44 (.bin .add 3 (tm 33) (kc 1)), om 33 44])))))))
 (.seq
 (.ops [ow 4 (.mov (.const (.bool true)))]) .ret)))))
theorem fn107 : FnOK Tryz.prog 107 45 [.tmp 4] L107 := ⟨Tryz.f107, Tryz.func107, by kernel_rfl, Tryz.ntmps107, by rw [Tryz.results107], by kernel_rfl⟩
def L108 : LCode :=
 (.seq
 (.ops [ow 3 (.box 95 (tm 1)), ow 4 (.mov (.const (.bool false)))])
 (.seq
 (.seq
 (.ops [om 7 0, ow 8 (.nilck (tm 7)), ow 9 (.faddr 158 (tm 8) 0 0), ow 10 (.faddr 29 (tm 9) 3 5), ow 11 (.load 27 (tm 10) none), ow 12 (.len false 27 3 (tm 11)), ow 13 (.mov (kc 0))])
 (.block 0
 (.loop
 (.seq
 (.ops [ow 14 (.bin .lss 3 (tm 13) (tm 12))])
 (.seq
 (.ite (tm 14) .skip
 (.exit 0))
 (.seq
 (.block 1
 (.seq
 (.ops [om 15 13, ow 16 (.iaddr 27 (tm 11) (tm 13) 3), ow 17 (.load 63 (tm 16) (some 3)), ow 6 (.alloc 63 [(.int .i64 0), (.int .i64 0), (.bool false)]), om 5 15, ⟨none, none, .store 63 (tm 6) (tm 17) 3⟩])
 (.seq
 (.seq
 (.dops [(om 18 5, []), (ow 19 (.bin .gtr 3 (tm 18) (kc 0)), [0]), (om 20 19, [1]), (oy 21 20 (.load 63 (tm 6) (some 3)), [2]), (oy 22 20 (.mov (tm 0)), [2]), (oy 23 20 (.nilck (tm 22)), [4, 2]), (oy 24 20 (.faddr 158 (tm 23) 0 0), [5, 2]), (oy 25 20 (.faddr 29 (tm 24) 3 5), [6, 2]), (oy 26 20 (.load 27 (tm 25) none), [7, 2]), (oy 27 20 (.mov (tm 5)), [2]), (oy 28 20 (.bin .sub 3 (tm 27) (kc 1)), [9, 2]), (oy 29 20 (.iaddr 27 (tm 26) (tm 28) 3), [8, 10, 2]), (oy 30 20 (.load 63 (tm 29) (some 3)), [11, 2]), (oy 31 20 (.eqT false 63 (tm 21) (tm 30)), [3, 12, 2]), (ow 32 (.pick (tm 20) (tm 31) (.const (.bool false))), [2, 13]), (om 33 32, [14, 2]), (oy 34 33 (.mov (tm 0)), [15]), (oy 35 33 (.nilck (tm 34)), [16, 15]), (oy 36 33 (.faddr 158 (tm 35) 1 6), [17, 15]), (oy 37 33 (.load 3 (tm 36) none), [18, 15]), (oy 38 33 (.mov (tm 5)), [15]), (oy 39 33 (.bin .sub 3 (tm 38) (kc 1)), [20, 15]), (oy 40 33 (.bin .shr 3 (tm 37) (tm 39)), [19, 21, 15]), (oy 41 33 (.bin .and 3 (tm 40) (kc 1)), [22, 15]), (oy 42 33 (.bin .eql 3 (tm 41) (kc 0)), [23, 15]), (ow 43 (.pick (tm 33) (tm 42) (.const (.bool false))), [15, 24])])
 (.ite (tm 43)
 (.exit 1) .skip))
 (.seq
 (.dops [(om 44 0, []), (ow 45 (.nilck (tm 44)), [0]), (ow 46 (.faddr 158 (tm 45) 1 6), [1]), (ow 47 (.load 3 (tm 46) none), [2]), (om 48 5, []), (ow 49 (.bin .shr 3 (tm 47) (tm 48)), [3, 4]), (ow 50 (.bin .and 3 (tm 49) (kc 1)), [5]), (ow 51 (.bin .eql 3 (tm 50) (kc 0)), [6]), (om 52 51, [7]), (oy 53 52 (.faddr 63 (tm 6) 0 0), [8]), (oy 54 52 (.load 3 (tm 53) none), [9, 8]), (oy 55 52 (.iaddrA 95 (tm 3) (tm 54) 6 1), [10, 8]), (oy 56 52 (.load 3 (tm 55) none), [11, 8]), (oy 57 52 (.faddr 63 (tm 6) 1 1), [8]), (oy 58 52 (.load 3 (tm 57) none), [13, 8]), (oy 59 52 (.iaddrA 95 (tm 3) (tm 58) 6 1), [14, 8]), (oy 60 52 (.load 3 (tm 59) none), [15, 8]), (oy 61 52 (.bin .eql 3 (tm 56) (tm 60)), [12, 16, 8]), (oy 62 52 (.faddr 63 (tm 6) 2 2), [8]), (oy 63 52 (.load 4 (tm 62) none), [18, 8]), (oy 64 52 (.eqT true 4 (tm 61) (tm 63)), [17, 19, 8]), (ow 65 (.pick (tm 52) (tm 64) (.const (.bool false))), [8, 20])])
 (.ite (tm 65)
 (.seq
 (.ops [ow 4 (.mov (.const (.bool false)))]) .ret) .skip)))))
 (.ops [ow 66 (.bin .add 3 (tm 13) (kc 1)), om 13 66])))))))
 (.seq
 (.ops [ow 4 (.mov (.const (.bool true)))]) .ret)))
theorem fn108 : FnOK Tryz.prog 108 67 [.tmp 4] L108 := ⟨Tryz.f108, Tryz.func108, by kernel_rfl, Tryz.ntmps108, by rw [Tryz.results108], by kernel_rfl⟩
def L109 : LCode :=
 (.seq
 (.ops [ow 3 (.mov (kc 0))])
 (.seq
 (.block 0
 (.seq
 (.ops [ow 5 (.faddr 29 (tm 0) 2 4), ow 6 (.load 26 (tm 5) none), ow 7 (.len false 26 3 (tm 6)), ow 8 (.bin .sub 3 (tm 7) (kc 1)), ow 9 (.load 3 (tm 1) none), ow 10 (.load 3 (tm 2) none), ow 11 (.bslice 34 2 [(0, (tm 9)), (1, (tm 10))] 3 1 [(.int .i64 0)]), ow 12 (.call 50 [(kc 0), (tm 8), (tm 11)] 4), om 4 12])
 (.ite (tm 4)
 (.seq
 (.ops [ow 3 (.mov (kc 4))]) .ret)
 (.seq
 (.ops [ow 14 (.load 3 (tm 1) none), ow 15 (.load 3 (tm 2) none), ow 16 (.bin .eql 3 (tm 14) (tm 15)), om 13 16])
 (.ite (tm 13)
 (.seq
 (.ops [ow 3 (.mov (kc 2))]) .ret) .skip)))))
 (.seq
 (.ops [ow 3 (.mov (kc 0))]) .ret)))
theorem fn109 : FnOK Tryz.prog 109 17 [.tmp 3] L109 := ⟨Tryz.f109, Tryz.func109, by kernel_rfl, Tryz.ntmps109, by rw [Tryz.results109], by kernel_rfl⟩
def L110 : LCode :=
 (.seq
 (.ops [ow 0 (.alloc 25 [(.int .i64 0), (.slice none 0 0), (.slice none 0 0)])])
 (.seq
 (.ops [ow 3 (.call 138 [(.const (.int .u8 97)), (kc 1), (.const (.bool false))] 131), ow 4 (.call 138 [(.const (.int .u8 101)), (kc 3), (.const (.bool false))] 131), ow 5 (.call 138 [(.const (.int .u8 107)), (kc 4), (.const (.bool false))] 131), ow 6 (.call 138 [(.const (.int .u8 104)), (kc 0), (.const (.bool true))] 131), ow 7 (.bslice 123 4 [(0, (tm 3)), (1, (tm 4)), (2, (tm 5)), (3, (tm 6))] 131 3 [(.int .u8 0), (.int .i64 0), (.bool false)]), ow 8 (.build 125 [(0, (.const (.string ⟨#[114, 111, 109, 97, 110]⟩))), (1, (tm 7))] [(.string ⟨#[]⟩), (.slice none 0 0)] [(0, 1, (.const (.string ⟨#[114, 111, 109, 97, 110]⟩))), (1, 1, (tm 7))]), ow 1 (.alloc 125 [(.string ⟨#[]⟩), (.slice none 0 0)]), ⟨none, none, .store 125 (tm 1) (tm 8) 2⟩])
 (.seq
 (.ops [ow 9 (.call 138 [(.const (.int .u8 107)), (kc 4), (.const (.bool false))] 131), ow 10 (.call 138 [(.const (.int .u8 121)), (kc 2), (.const (.bool true))] 131), ow 11 (.call 138 [(.const (.int .u8 110)), (kc 1), (.const (.bool false))] 131), ow 12 (.bslice 123 3 [(0, (tm 9)), (1, (tm 10)), (2, (tm 11))] 131 3 [(.int .u8 0), (.int .i64 0), (.bool false)]), ow 13 (.build 125 [(0, (.const (.string ⟨#[97, 98, 106, 97, 100]⟩))), (1, (tm 12))] [(.string ⟨#[]⟩), (.slice none 0 0)] [(0, 1, (.const (.string ⟨#[97, 98, 106, 97, 100]⟩))), (1, 1, (tm 12))]), ow 2 (.alloc 125 [(.string ⟨#[]⟩), (.slice none 0 0)]), ⟨none, none, .store 125 (tm 2) (tm 13) 2⟩])
 (.seq
 (.ops [ow 14 (.load 125 (tm 1) (some 2)), ow 15 (.load 125 (tm 2) (some 2)), ow 16 (.bslice 22 2 [(0, (tm 14)), (1, (tm 15))] 125 2 [(.string ⟨#[]⟩), (.slice none 0 0)]), ow 17 (.build 141 [(1, (.const (.string ⟨#[107, 101]⟩)))] [(.int .i64 0), (.string ⟨#[]⟩)] [(1, 1, (.const (.string ⟨#[107, 101]⟩)))]), ow 18 (.build 141 [(0, (kc 1)), (1, (.const (.string ⟨#[107, 121]⟩)))] [(.int .i64 0), (.string ⟨#[]⟩)] [(0, 1, (kc 1)), (1, 1, (.const (.string ⟨#[107, 121]⟩)))]), ow 19 (.build 141 [(1, (.const (.string ⟨#[104, 107, 97]⟩)))] [(.int .i64 0), (.string ⟨#[]⟩)] [(1, 1, (.const (.string ⟨#[104, 107, 97]⟩)))]), ow 20 (.build 141 [(0, (kc 1)), (1, (.const (.string ⟨#[107, 110]⟩)))] [(.int .i64 0), (.string ⟨#[]⟩)] [(0, 1, (kc 1)), (1, 1, (.const (.string ⟨#[107, 110]⟩)))]), ow 21 (.bslice 23 4 [(0, (tm 17)), (1, (tm 18)), (2, (tm 19)), (3, (tm 20))] 141 2 [(.int .i64 0), (.string ⟨#[]⟩)]), ow 22 (.build 25 [(0, (kc 3)), (1, (tm 16)), (2, (tm 21))] [(.int .i64 0), (.slice none 0 0), (.slice none 0 0)] [(0, 1, (kc 3)), (1, 1, (tm 16)), (2, 1, (tm 21))]), ⟨none, none, .store 25 (tm 0) (tm 22) 3⟩]) .ret))))
theorem fn110 : FnOK Tryz.prog 110 23 [.cell 0 25] L110 := ⟨Tryz.f110, Tryz.func110, by kernel_rfl, Tryz.ntmps110, by rw [Tryz.results110], by kernel_rfl⟩
def L111 : LCode :=
 (.seq
 (.ops [ow 2 (.alloc 63 [(.int .i64 0), (.int .i64 0), (.bool false)])])
 (.seq
 (.ops [om 3 0, ow 4 (.build 63 [(1, (kc 1)), (2, (tm 3))] [(.int .i64 0), (.int .i64 0), (.bool false)] [(1, 1, (kc 1)), (2, 1, (tm 3))]), ⟨none, none, .store 63 (tm 2) (tm 4) 3⟩]) .ret))
theorem fn111 : FnOK Tryz.prog 111 5 [.cell 2 63] L111 := ⟨Tryz.f111, Tryz.func111, by kernel_rfl, Tryz.ntmps111, by rw [Tryz.results111], by kernel_rfl⟩
def L112 : LCode :=
 (.seq
 (.ops [ow 6 (.mov (.const (.bool false)))])
 (.seq
 (.dops [(om 11 0, []), (om 12 1, []), (ow 13 (.nilck (tm 11)), [0]), (ow 14 (.iaddrA 106 (tm 13) (tm 12) 6 2), [2, 1]), (ow 15 (.load 43 (tm 14) (some 2)), [3]), (om 16 0, []), (om 17 2, []), (ow 18 (.nilck (tm 16)), [5]), (ow 19 (.iaddrA 106 (tm 18) (tm 17) 6 2), [7, 6]), (ow 20 (.load 43 (tm 19) (some 2)), [8]), (ow 7 (.alloc 43 [(.int .i64 0), (.int .i64 0)]), []), (ow 8 (.alloc 43 [(.int .i64 0), (.int .i64 0)]), []), (⟨none, none, .store 43 (tm 7) (tm 15) 2⟩, [10, 4, 0, 1, 2, 3, 4, 10, 11]), (⟨none, none, .store 43 (tm 8) (tm 20) 2⟩, [11, 9, 12, 0, 1, 2, 3, 4, 5, 6, 7, 8, 9, 10, 11, 12])])
 (.seq
 (.ops [ow 21 (.faddr 43 (tm 7) 0 0), ow 22 (.load 3 (tm 21) none), ow 23 (.faddr 43 (tm 8) 0 0), ow 24 (.load 3 (tm 23) none), ow 25 (.bin .sub 3 (tm 24) (kc 60)), ow 26 (.max [3, 3] 3 [(tm 22), (tm 25)]), ow 27 (.faddr 43 (tm 7) 1 1), ow 28 (.load 3 (tm 27) none), ow 29 (.faddr 43 (tm 8) 1 1), ow 30 (.load 3 (tm 29) none), ow 31 (.bin .sub 3 (tm 30) (kc 15)), ow 32 (.min [3, 3] 3 [(tm 28), (tm 31)]), ow 33 (.build 43 [(0, (tm 26)), (1, (tm 32))] [(.int .i64 0), (.int .i64 0)] [(0, 1, (tm 26)), (1, 1, (tm 32))]), ow 9 (.alloc 43 [(.int .i64 0), (.int .i64 0)]), ⟨none, none, .store 43 (tm 9) (tm 33) 2⟩])
 (.seq
 (.ops [ow 34 (.faddr 43 (tm 8) 0 0), ow 35 (.load 3 (tm 34) none), ow 36 (.faddr 43 (tm 7) 0 0), ow 37 (.load 3 (tm 36) none), ow 38 (.bin .add 3 (tm 37) (kc 15)), ow 39 (.max [3, 3] 3 [(tm 35), (tm 38)]), ow 40 (.faddr 43 (tm 8) 1 1), ow 41 (.load 3 (tm 40) none), ow 42 (.faddr 43 (tm 7) 1 1), ow 43 (.load 3 (tm 42) none), ow 44 (.bin .add 3 (tm 43) (kc 60)), ow 45 (.min [3, 3] 3 [(tm 41), (tm 44)]), ow 46 (.build 43 [(0, (tm 39)), (1, (tm 45))] [(.int .i64 0), (.int .i64 0)] [(0, 1, (tm 39)), (1, 1, (tm 45))]), ow 10 (.alloc 43 [(.int .i64 0), (.int .i64 0)]), ⟨none, none, .store 43 (tm 10) (tm 46) 2⟩])
 (.seq
 (.dops [(om 47 0, []), (om 48 1, []), (ow 49 (.load 43 (tm 9) (some 2)), []), (ow 50 (.nilck (tm 47)), [0]), (ow 51 (.iaddrA 106 (tm 50) (tm 48) 6 2), [3, 1, 0, 1, 2]), (⟨none, none, .store 43 (tm 51) (tm 49) 2⟩, [4, 2, 0, 1, 2])])
 (.seq
 (.dops [(om 52 0, []), (om 53 2, []), (ow 54 (.load 43 (tm 10) (some 2)), []), (ow 55 (.nilck (tm 52)), [0]), (ow 56 (.iaddrA 106 (tm 55) (tm 53) 6 2), [3, 1, 0, 1, 2]), (⟨none, none, .store 43 (tm 56) (tm 54) 2⟩, [4, 2, 0, 1, 2])])
 (.seq
 (.ops [ow 57 (.load 43 (tm 9) (some 2)), ow 58 (.load 43 (tm 7) (some 2)), ow 59 (.eqT true 43 (tm 57) (tm 58)), om 60 59, oz 61 60 (.load 43 (tm 10) (some 2)), oz 62 60 (.load 43 (tm 8) (some 2)), oz 63 60 (.eqT true 43 (tm 61) (tm 62)), ow 64 (.pick (tm 60) (.const (.bool true)) (tm 63)), om 6 64]) .ret)))))))
theorem fn112 : FnOK Tryz.prog 112 65 [.tmp 6] L112 := ⟨Tryz.f112, Tryz.func112, by kernel_rfl, Tryz.ntmps112, by rw [Tryz.results112], by kernel_rfl⟩
def L115 : LCode :=
 (.seq
 (.ops [ow 0 (.mov (.const (.slice none 0 0)))])
 (.seq
 (.ops [ow 1 (.build 165 [(0, (kc 1)), (1, (.func 139))] [(.int .i64 0), .nilFunc] [(0, 1, (kc 1)), (1, 1, (.func 139))]), ow 2 (.build 165 [(0, (kc 2)), (1, (.func 140))] [(.int .i64 0), .nilFunc] [(0, 1, (kc 2)), (1, 1, (.func 140))]), ow 3 (.build 165 [(0, (kc 3)), (1, (.func 141))] [(.int .i64 0), .nilFunc] [(0, 1, (kc 3)), (1, 1, (.func 141))]), ow 4 (.build 165 [(0, (kc 4)), (1, (.func 142))] [(.int .i64 0), .nilFunc] [(0, 1, (kc 4)), (1, 1, (.func 142))]), ow 5 (.bslice 161 4 [(0, (tm 1)), (1, (tm 2)), (2, (tm 3)), (3, (tm 4))] 165 2 [(.int .i64 0), .nilFunc]), om 0 5]) .ret))
theorem fn115 : FnOK Tryz.prog 115 6 [.tmp 0] L115 := ⟨Tryz.f115, Tryz.func115, by kernel_rfl, Tryz.ntmps115, by rw [Tryz.results115], by kernel_rfl⟩
def L116 : LCode :=
 (.seq
 (.ops [ow 4 (.mov (kc 0))])
 (.seq
 (.ops [om 7 0, ow 8 (.call 143 [(tm 7)] 4), om 5 8])
 (.seq
 (.ops [om 9 1, ow 10 (.call 143 [(tm 9)] 4), om 6 10])
 (.seq
 (.seq
 (.ops [om 11 5])
 (.ite (tm 11)
 (.seq
 (.seq
 (.ops [om 12 6])
 (.ite (tm 12)
 (.seq
 (.ops [ow 4 (.mov (kc 0))]) .ret) .skip))
 (.seq
 (.ops [ow 4 (.mov (kc (-1)))]) .ret)) .skip))
 (.seq
 (.seq
 (.ops [om 13 6])
 (.ite (tm 13)
 (.seq
 (.ops [ow 4 (.mov (kc 1))]) .ret) .skip))
 (.seq
 (.seq
 (.ops [om 14 0, om 15 1, ow 16 (.bin .lss 3 (tm 14) (tm 15))])
 (.ite (tm 16)
 (.seq
 (.ops [ow 4 (.mov (kc (-1)))]) .ret) .skip))
 (.seq
 (.seq
 (.ops [om 17 0, om 18 1, ow 19 (.bin .gtr 3 (tm 17) (tm 18))])
 (.ite (tm 19)
 (.seq
 (.ops [ow 4 (.mov (kc 1))]) .ret) .skip))
 (.seq
 (.ops [ow 4 (.mov (kc 0))]) .ret))))))))
theorem fn116 : FnOK Tryz.prog 116 20 [.tmp 4] L116 := ⟨Tryz.f116, Tryz.func116, by kernel_rfl, Tryz.ntmps116, by rw [Tryz.results116], by kernel_rfl⟩
def L121 : LCode :=
 (.seq
 (.ops [ow 4 (.mov (.const (.bool false)))])
 (.seq
 (.ops [om 5 0, ow 6 (.load 3 (tm 1) none), ow 7 (.bin .lss 3 (tm 5) (tm 6)), om 8 7, oz 9 8 (.mov (tm 0)), oz 10 8 (.load 3 (tm 2) none), oz 11 8 (.bin .gtr 3 (tm 9) (tm 10)), ow 12 (.pick (tm 8) (.const (.bool true)) (tm 11)), om 4 12]) .ret))
theorem fn121 : FnOK Tryz.prog 121 13 [.tmp 4] L121 := ⟨Tryz.f121, Tryz.func121, by kernel_rfl, Tryz.ntmps121, by rw [Tryz.results121], by kernel_rfl⟩
def L122 : LCode :=
 (.seq
 (.ops [ow 4 (.mov (kc 0))])
 (.seq
 (.seq
 (.ops [om 6 0, ow 7 (.len false 22 3 (tm 6)), ow 8 (.mov (kc 0))])
 (.block 0
 (.loop
 (.seq
 (.ops [ow 9 (.bin .lss 3 (tm 8) (tm 7))])
 (.seq
 (.ite (tm 9) .skip
 (.exit 0))
 (.seq
 (.block 1
 (.seq
 (.ops [om 10 8, om 5 10])
 (.seq
 (.ops [om 11 1, om 12 0, om 13 5, ow 14 (.iaddr 22 (tm 12) (tm 13) 2), ow 15 (.load 125 (tm 14) (some 2)), ow 16 (.callv (tm 11) [(tm 15)] 4)])
 (.ite (tm 16)
 (.seq
 (.ops [om 17 5, om 4 17]) .ret) .skip))))
 (.ops [ow 18 (.bin .add 3 (tm 8) (kc 1)), om 8 18])))))))
 (.seq
 (.ops [ow 4 (.mov (kc (-1)))]) .ret)))
theorem fn122 : FnOK Tryz.prog 122 19 [.tmp 4] L122 := ⟨Tryz.f122, Tryz.func122, by kernel_rfl, Tryz.ntmps122, by rw [Tryz.results122], by kernel_rfl⟩
def L123 : LCode :=
 (.seq
 (.ops [ow 4 (.mov (.const (.bool false)))])
 (.seq
 (.ops [om 5 0, om 6 1, ow 7 (.iaddr 123 (tm 5) (tm 6) 3), ow 8 (.faddr 131 (tm 7) 0 0), ow 9 (.load 5 (tm 8) none), ow 10 (.toInt .i64 5 3 (tm 9)), ow 11 (.bslice 34 1 [(0, (tm 10))] 3 1 [(.int .i64 0)]), ow 12 (.call 87 [(kc 97), (kc 122), (tm 11)] 4), om 4 12]) .ret))
theorem fn123 : FnOK Tryz.prog 123 13 [.tmp 4] L123 := ⟨Tryz.f123, Tryz.func123, by kernel_rfl, Tryz.ntmps123, by rw [Tryz.results123], by kernel_rfl⟩
def L124 : LCode :=
 (.seq
 (.ops [ow 4 (.mov (.const (.bool false)))])
 (.seq
 (.dops [(om 5 0, []), (om 6 1, []), (ow 7 (.sliceE 123 (tm 5) none (some (tm 6)) none 3), [0, 1]), (om 8 0, []), (om 9 1, []), (ow 10 (.iaddr 123 (tm 8) (tm 9) 3), [3, 4]), (ow 11 (.faddr 131 (tm 10) 0 0), [5]), (ow 12 (.load 5 (tm 11) none), [6]), (ow 13 (.call 98 [(tm 7), (tm 12)] 3), [2, 7]), (ow 14 (.bin .geq 3 (tm 13) (kc 0)), [8]), (om 4 14, [9, 8, 0, 1, 2, 3, 4, 5, 6, 7, 8, 9])]) .ret))
theorem fn124 : FnOK Tryz.prog 124 15 [.tmp 4] L124 := ⟨Tryz.f124, Tryz.func124, by kernel_rfl, Tryz.ntmps124, by rw [Tryz.results124], by kernel_rfl⟩
def L125 : LCode :=
 (.seq
 (.ops [ow 5 (.mov (.const (.bool false)))])
 (.seq
 (.dops [(ow 6 (.load 3 (tm 2) none), []), (ow 7 (.bin .shl 3 (kc 1) (tm 6)), [0]), (ow 8 (.bin .sub 3 (tm 7) (kc 1)), [1]), (om 9 0, []), (om 10 1, []), (ow 11 (.iaddr 123 (tm 9) (tm 10) 3), [3, 4]), (ow 12 (.faddr 131 (tm 11) 1 1), [5]), (ow 13 (.load 3 (tm 12) none), [6]), (ow 14 (.bslice 34 1 [(0, (tm 13))] 3 1 [(.int .i64 0)]), [7]), (ow 15 (.call 87 [(kc 0), (tm 8), (tm 14)] 4), [2, 8]), (om 5 15, [9, 9, 0, 1, 2, 3, 4, 5, 6, 7, 8, 9])]) .ret))
theorem fn125 : FnOK Tryz.prog 125 16 [.tmp 5] L125 := ⟨Tryz.f125, Tryz.func125, by kernel_rfl, Tryz.ntmps125, by rw [Tryz.results125], by kernel_rfl⟩
def L126 : LCode :=
 (.seq
 (.ops [ow 4 (.mov (.const (.bool false)))])
 (.seq
 (.ops [om 5 0, om 6 1, ow 7 (.iaddr 123 (tm 5) (tm 6) 3), ow 8 (.faddr 131 (tm 7) 1 1), ow 9 (.load 3 (tm 8) none), ow 10 (.bin .eql 3 (tm 9) (kc 0)), om 11 10, oy 12 11 (.mov (tm 0)), oy 13 11 (.mov (tm 1)), oy 14 11 (.iaddr 123 (tm 12) (tm 13) 3), oy 15 11 (.faddr 131 (tm 14) 2 2), oy 16 11 (.load 4 (tm 15) none), oy 17 11 (.un .not (tm 16)), ow 18 (.pick (tm 11) (tm 17) (.const (.bool false))), om 4 18]) .ret))
theorem fn126 : FnOK Tryz.prog 126 19 [.tmp 4] L126 := ⟨Tryz.f126, Tryz.func126, by kernel_rfl, Tryz.ntmps126, by rw [Tryz.results126], by kernel_rfl⟩
def L127 : LCode :=
 (.seq
 (.ops [ow 4 (.mov (kc 0))])
 (.seq
 (.seq
 (.ops [om 6 0, ow 7 (.len false 123 3 (tm 6)), ow 8 (.mov (kc 0))])
 (.block 0
 (.loop
 (.seq
 (.ops [ow 9 (.bin .lss 3 (tm 8) (tm 7))])
 (.seq
 (.ite (tm 9) .skip
 (.exit 0))
 (.seq
 (.block 1
 (.seq
 (.ops [om 10 8, om 5 10])
 (.seq
 (.ops [om 11 1, om 12 0, om 13 5, ow 14 (.iaddr 123 (tm 12) (tm 13) 3), ow 15 (.load 131 (tm 14) (some 3)), ow 16 (.callv (tm 11) [(tm 15)] 4)])
 (.ite (tm 16)
 (.seq
 (.ops [om 17 5, om 4 17]) .ret) .skip))))
 (.ops [ow 18 (.bin .add 3 (tm 8) (kc 1)), om 8 18])))))))
 (.seq
 (.ops [ow 4 (.mov (kc (-1)))]) .ret)))
theorem fn127 : FnOK Tryz.prog 127 19 [.tmp 4] L127 := ⟨Tryz.f127, Tryz.func127, by kernel_rfl, Tryz.ntmps127, by rw [Tryz.results127], by kernel_rfl⟩
def L128 : LCode :=
 (.seq
 (.ops [ow 2 (.box 131 (tm 0)), ow 3 (.mov (.const (.bool false)))])
 (.seq
 (.ops [ow 4 (.faddr 131 (tm 2) 0 0), ow 5 (.load 5 (tm 4) none), ow 6 (.load 5 (tm 1) none), ow 7 (.bin .eql 5 (tm 5) (tm 6)), om 3 7]) .ret))
theorem fn128 : FnOK Tryz.prog 128 8 [.tmp 3] L128 := ⟨Tryz.f128, Tryz.func128, by kernel_rfl, Tryz.ntmps128, by rw [Tryz.results128], by kernel_rfl⟩
def L129 : LCode :=
 (.seq
 (.ops [ow 4 (.mov (kc 0))])
 (.seq
 (.seq
 (.ops [om 6 0, ow 7 (.len false 34 3 (tm 6)), ow 8 (.mov (kc 0))])
 (.block 0
 (.loop
 (.seq
 (.ops [ow 9 (.bin .lss 3 (tm 8) (tm 7))])
 (.seq
 (.ite (tm 9) .skip
 (.exit 0))
 (.seq
 (.block 1
 (.seq
 (.ops [om 10 8, om 5 10])
 (.seq
 (.ops [om 11 1, om 12 0, om 13 5, ow 14 (.iaddr 34 (tm 12) (tm 13) 1), ow 15 (.load 3 (tm 14) none), ow 16 (.callv (tm 11) [(tm 15)] 4)])
 (.ite (tm 16)
 (.seq
 (.ops [om 17 5, om 4 17]) .ret) .skip))))
 (.ops [ow 18 (.bin .add 3 (tm 8) (kc 1)), om 8 18])))))))
 (.seq
 (.ops [ow 4 (.mov (kc (-1)))]) .ret)))
theorem fn129 : FnOK Tryz.prog 129 19 [.tmp 4] L129 := ⟨Tryz.f129, Tryz.func129, by kernel_rfl, Tryz.ntmps129, by rw [Tryz.results129], by kernel_rfl⟩
def L134 : LCode :=
 (.seq
 (.ops [ow 2 (.box 151 (tm 0))])
 (.seq
 (.ops [ow 3 (.alloc 95 [(.int .i64 0), (.int .i64 0), (.int .i64 0), (.int .i64 0), (.int .i64 0), (.int .i64 0)])])
 (.seq
 (.ops [ow 4 (.alloc 69 [.nilFunc])])
 (.seq
 (.ops [ow 5 (.mkfn (.func 135) [] [(tm 1), (tm 3), (tm 2), (tm 4)]), ⟨none, none, .store 69 (tm 4) (tm 5) 1⟩])
 (.ops [ow 6 (.load 69 (tm 4) none), ow 7 (.callv (tm 6) [(kc 0), (kc 0)] 4)])))))
theorem fn134 : FnOK Tryz.prog 134 8 [] L134 := ⟨Tryz.f134, Tryz.func134, by kernel_rfl, Tryz.ntmps134, by rw [Tryz.results134], by kernel_rfl⟩
def L135 : LCode :=
 (.seq
 (.ops [ow 8 (.mov (.const (.bool false)))])
 (.scope
 (.seq
 (.seq
 (.ops [om 13 0, ow 14 (.load 87 (tm 2) none), ow 15 (.nilck (tm 14)), ow 16 (.faddr 158 (tm 15) 0 0), ow 17 (.faddr 29 (tm 16) 2 4), ow 18 (.load 26 (tm 17) none), ow 19 (.len false 26 3 (tm 18)), ow 20 (.bin .eql 3 (tm 13) (tm 19))])
 (.ite (tm 20)
 (.seq
 (.seq
 (.ops [ow 22 (.load 87 (tm 2) none), ow 23 (.load 95 (tm 3) (some 6)), ow 24 (.call 72 [(tm 22), (tm 23)] 107), om 21 24, ow 25 (.extract (tm 21) 0), ow 26 (.extract (tm 21) 1), ow 9 (.alloc 106 [(.int .i64 0), (.int .i64 0), (.int .i64 0), (.int .i64 0), (.int .i64 0), (.int .i64 0), (.int .i64 0), (.int .i64 0), (.int .i64 0), (.int .i64 0), (.int .i64 0), (.int .i64 0)]), ⟨none, none, .store 106 (tm 9) (tm 25) 12⟩, om 10 26])
 (.seq
 (.ops [om 27 10, ow 28 (.un .not (tm 27)), om 29 28, oz 30 29 (.load 87 (tm 2) none), oz 31 29 (.load 95 (tm 3) (some 6)), oz 32 29 (.call 136 [(tm 30), (tm 31)] 4), oz 33 29 (.un .not (tm 32)), ow 34 (.pick (tm 29) (.const (.bool true)) (tm 33))])
 (.ite (tm 34)
 (.seq
 (.ops [ow 8 (.mov (.const (.bool true)))]) .ret) .skip)))
 (.seq
 (.ops [ow 35 (.load 151 (tm 4) none), ow 36 (.load 95 (tm 3) (some 6)), om 37 1, ow 38 (.callv (tm 35) [(tm 36), (tm 37)] 4), om 8 38]) .ret)) .skip))
 (.seq
 (.label 0)
 (.seq
 (.seq
 (.ops [om 39 1, ow 40 (.bin .add 3 (tm 39) (kc 1)), ow 41 (.mov (kc 0))])
 (.block 0
 (.loop
 (.seq
 (.ops [ow 42 (.bin .lss 3 (tm 41) (tm 40))])
 (.seq
 (.ite (tm 42) .skip
 (.exit 0))
 (.seq
 (.block 1
 (.seq
 (.ops [om 43 41, om 11 43])
 (.seq
 (.seq
 (.ops [om 44 0, ow 45 (.mov (kc 0))])
 (.block 2
 (.loop
 (.seq
 (.ops [ow 46 (.bin .lss 3 (tm 45) (tm 44))])
 (.seq
 (.ite (tm 46) .skip
 (.exit 2))
 (.seq
 (.block 3
 (.seq
 (.ops [om 47 45, om 12 47])
 (.seq
 (.ops [om 48 12, ow 49 (.iaddrA 95 (tm 3) (tm 48) 6 1), ow 50 (.load 3 (tm 49) none), om 51 11, ow 52 (.bin .eql 3 (tm 50) (tm 51)), om 53 52, oy 54 53 (.load 87 (tm 2) none), oy 55 53 (.mov (tm 12)), oy 56 53 (.mov (tm 0)), oy 57 53 (.call 76 [(tm 54), (tm 55), (tm 56)] 3), oy 58 53 (.bin .neq 3 (tm 57) (kc 0)), ow 59 (.pick (tm 53) (tm 58) (.const (.bool false)))])
 (.ite (tm 59)
 (.exit 1) .skip))))
 (.ops [ow 60 (.bin .add 3 (tm 45) (kc 1)), om 45 60])))))))
 (.seq
 (.ops [om 61 0, om 62 11, ow 63 (.iaddrA 95 (tm 3) (tm 61) 6 1), ⟨none, none, .store 3 (tm 63) (tm 62) 1⟩])
 (.seq
 (.ops [ow 64 (.load 69 (tm 5) none), om 65 0, ow 66 (.bin .add 3 (tm 65) (kc 1)), om 67 1, om 68 11, ow 69 (.bin .add 3 (tm 68) (kc 1)), ow 70 (.max [3, 3] 3 [(tm 67), (tm 69)]), ow 71 (.callv (tm 64) [(tm 66), (tm 70)] 4), ow 72 (.un .not (tm 71))])
 (.ite (tm 72)
 (.seq
 (.ops [ow 8 (.mov (.const (.bool false)))]) .ret) .skip))))))
 (.ops [ow 73 (.bin .add 3 (tm 41) (kc 1)), om 41 73])))))))
 (.seq
 (.ops [om 74 0, ow 75 (.iaddrA 95 (tm 3) (tm 74) 6 1), ⟨none, none, .store 3 (tm 75) (kc 0) 1⟩])
 (.seq
 (.ops [ow 8 (.mov (.const (.bool true)))]) .ret)))))))
theorem fn135 : FnOK Tryz.prog 135 76 [.tmp 8] L135 := ⟨Tryz.f135, Tryz.func135, by kernel_rfl, Tryz.ntmps135, by rw [Tryz.results135], by kernel_rfl⟩
def L136 : LCode :=
 (.seq
 (.ops [ow 3 (.box 95 (tm 1)), ow 4 (.mov (.const (.bool false)))])
 (.seq
 (.ops [ow 5 (.alloc 95 [(.int .i64 0), (.int .i64 0), (.int .i64 0), (.int .i64 0), (.int .i64 0), (.int .i64 0)])])
 (.seq
 (.seq
 (.ops [om 10 0, ow 11 (.nilck (tm 10)), ow 12 (.faddr 158 (tm 11) 0 0), ow 13 (.faddr 29 (tm 12) 2 4), ow 14 (.load 26 (tm 13) none), ow 15 (.len false 26 3 (tm 14)), ow 16 (.mov (kc 0))])
 (.block 0
 (.loop
 (.seq
 (.ops [ow 17 (.bin .lss 3 (tm 16) (tm 15))])
 (.seq
 (.ite (tm 17) .skip
 (.exit 0))
 (.seq
 (.block 1
 (.seq
 (.ops [om 18 16, ow 19 (.iaddr 26 (tm 14) (tm 16) 5), ow 20 (.load 49 (tm 19) (some 5)), ow 7 (.alloc 49 [(.int .i64 0), (.int .i64 0), (.int .i64 0), (.int .i64 0), (.int .i64 0)]), om 6 18, ⟨none, none, .store 49 (tm 7) (tm 20) 5⟩])
 (.seq
 (.seq
 (.ops [ow 21 (.faddr 49 (tm 7) 3 4), ow 22 (.load 3 (tm 21) none), ow 23 (.bin .eql 3 (tm 22) (kc (-1)))])
 (.ite (tm 23)
 (.exit 1) .skip))
 (.seq
 (.dops [(om 24 6, []), (ow 25 (.iaddrA 95 (tm 3) (tm 24) 6 1), [0]), (ow 26 (.load 3 (tm 25) none), [1]), (ow 27 (.faddr 49 (tm 7) 3 4), []), (ow 28 (.load 3 (tm 27) none), [3]), (ow 29 (.iaddrA 95 (tm 3) (tm 28) 6 1), [4]), (ow 30 (.load 3 (tm 29) none), [5]), (om 8 26, [2, 0, 1, 2]), (om 9 30, [6, 7, 0, 1, 2, 3, 4, 5, 6, 7])])
 (.seq
 (.seq
 (.ops [om 31 8, om 32 9, ow 33 (.bin .eql 3 (tm 31) (tm 32)), om 34 33, oz 35 34 (.mov (tm 8)), oz 36 34 (.iaddrA 95 (tm 5) (tm 35) 6 1), oz 37 34 (.load 3 (tm 36) none), oz 38 34 (.bin .neq 3 (tm 37) (kc 0)), oz 39 34 (.mov (tm 38)), oy 40 39 (.mov (tm 8)), oy 41 39 (.iaddrA 95 (tm 5) (tm 40) 6 1), oy 42 39 (.load 3 (tm 41) none), oy 43 39 (.mov (tm 9)), oy 44 39 (.bin .add 3 (tm 43) (kc 1)), oy 45 39 (.bin .neq 3 (tm 42) (tm 44)), oz 46 34 (.pick (tm 39) (tm 45) (.const (.bool false))), ow 47 (.pick (tm 34) (.const (.bool true)) (tm 46))])
 (.ite (tm 47)
 (.seq
 (.ops [ow 4 (.mov (.const (.bool false)))]) .ret) .skip))
 (.ops [om 48 8, om 49 9, ow 50 (.bin .add 3 (tm 49) (kc 1)), ow 51 (.iaddrA 95 (tm 5) (tm 48) 6 1), ⟨none, none, .store 3 (tm 51) (tm 50) 1⟩]))))))
 (.ops [ow 52 (.bin .add 3 (tm 16) (kc 1)), om 16 52])))))))
 (.seq
 (.ops [ow 4 (.mov (.const (.bool true)))]) .ret))))
theorem fn136 : FnOK Tryz.prog 136 53 [.tmp 4] L136 := ⟨Tryz.f136, Tryz.func136, by kernel_rfl, Tryz.ntmps136, by rw [Tryz.results136], by kernel_rfl⟩
def L137 : LCode :=
 (.seq
 (.ops [ow 4 (.mov (.const (.bool false)))])
 (.seq
 (.seq
 (.ops [om 7 0, ow 8 (.nilck (tm 7)), ow 9 (.faddr 158 (tm 8) 2 7), ow 10 (.load 155 (tm 9) none), om 11 1, ow 12 (.lookup 155 (tm 10) (tm 11) false 3 3 [(.int .i64 0)]), ow 13 (.bin .eql 3 (tm 12) (kc 0))])
 (.ite (tm 13)
 (.seq
 (.ops [om 14 0, ow 15 (.nilck (tm 14)), ow 16 (.faddr 158 (tm 15) 2 7), ow 17 (.load 155 (tm 16) none), om 18 1, ⟨none, none, .mapup 155 (tm 17) (tm 18) (kc 2) 3 3⟩])
 (.seq
 (.dops [(om 20 0, []), (ow 21 (.nilck (tm 20)), [0]), (ow 22 (.faddr 158 (tm 21) 0 0), [1]), (ow 23 (.faddr 29 (tm 22) 0 0), [2]), (ow 24 (.load 25 (tm 23) (some 3)), [3]), (om 25 1, []), (om 26 0, []), (ow 27 (.nilck (tm 26)), [6]), (ow 28 (.faddr 158 (tm 27) 0 0), [7]), (ow 29 (.faddr 29 (tm 28) 0 0), [8]), (ow 30 (.faddr 25 (tm 29) 2 2), [9]), (ow 31 (.load 23 (tm 30) none), [10]), (ow 32 (.len false 23 3 (tm 31)), [11]), (ow 33 (.call 79 [(tm 25), (tm 32)] 34), [5, 12]), (ow 34 (.call 144 [(tm 24), (tm 33)] 50), [4, 13, 13]), (om 19 34, [14]), (ow 35 (.extract (tm 19) 0), [15]), (ow 36 (.extract (tm 19) 1), [15]), (om 5 35, [16, 14, 0, 1, 2, 3, 4, 5, 6, 7, 8, 9, 10, 11, 12, 13, 14, 15, 16]), (om 6 36, [17, 18, 0, 1, 2, 3, 4, 5, 6, 7, 8, 9, 10, 11, 12, 13, 14, 15, 16, 17, 18])])
 (.seq
 (.ops [om 37 6, ow 38 (.bin .eql 31 (tm 37) (kc 0))])
 (.ite (tm 38)
 (.ops [om 39 0, ow 40 (.nilck (tm 39)), ow 41 (.faddr 158 (tm 40) 2 7), ow 42 (.load 155 (tm 41) none), om 43 1, ⟨none, none, .mapup 155 (tm 42) (tm 43) (kc 1) 3 3⟩]) .skip)))) .skip))
 (.seq
 (.ops [om 44 0, ow 45 (.nilck (tm 44)), ow 46 (.faddr 158 (tm 45) 2 7), ow 47 (.load 155 (tm 46) none), om 48 1, ow 49 (.lookup 155 (tm 47) (tm 48) false 3 3 [(.int .i64 0)]), ow 50 (.bin .eql 3 (tm 49) (kc 1)), om 4 50]) .ret)))
theorem fn137 : FnOK Tryz.prog 137 51 [.tmp 4] L137 := ⟨Tryz.f137, Tryz.func137, by kernel_rfl, Tryz.ntmps137, by rw [Tryz.results137], by kernel_rfl⟩
def L138 : LCode :=
 (.seq
 (.ops [ow 6 (.alloc 131 [(.int .u8 0), (.int .i64 0), (.bool false)])])
 (.seq
 (.ops [om 7 0, om 8 1, om 9 2, ow 10 (.build 131 [(0, (tm 7)), (1, (tm 8)), (2, (tm 9))] [(.int .u8 0), (.int .i64 0), (.bool false)] [(0, 1, (tm 7)), (1, 1, (tm 8)), (2, 1, (tm 9))]), ⟨none, none, .store 131 (tm 6) (tm 10) 3⟩]) .ret))
theorem fn138 : FnOK Tryz.prog 138 11 [.cell 6 131] L138 := ⟨Tryz.f138, Tryz.func138, by kernel_rfl, Tryz.ntmps138, by rw [Tryz.results138], by kernel_rfl⟩
def L139 : LCode :=
 (.seq
 (.ops [ow 6 (.mov (.const (.bool false)))])
 (.seq
 (.dops [(om 7 0, []), (om 8 0, []), (ow 9 (.nilck (tm 8)), [1]), (ow 10 (.faddr 158 (tm 9) 0 0), [2]), (ow 11 (.faddr 29 (tm 10) 2 4), [3]), (ow 12 (.load 26 (tm 11) none), [4]), (om 13 1, []), (ow 14 (.iaddr 26 (tm 12) (tm 13) 5), [5, 6]), (ow 15 (.faddr 49 (tm 14) 0 0), [7]), (ow 16 (.load 3 (tm 15) none), [8]), (ow 17 (.bin .shl 3 (kc 1) (tm 16)), [9]), (om 18 0, []), (ow 19 (.nilck (tm 18)), [11]), (ow 20 (.faddr 158 (tm 19) 0 0), [12]), (ow 21 (.faddr 29 (tm 20) 2 4), [13]), (ow 22 (.load 26 (tm 21) none), [14]), (om 23 2, []), (ow 24 (.iaddr 26 (tm 22) (tm 23) 5), [15, 16]), (ow 25 (.faddr 49 (tm 24) 0 0), [17]), (ow 26 (.load 3 (tm 25) none), [18]), (ow 27 (.bin .shl 3 (kc 1) (tm 26)), [19]), (ow 28 (.bin .or 3 (tm 17) (tm 27)), [10, 20]), (ow 29 (.call 137 [(tm 7), (tm 28)] 4), [0, 21]), (ow 30 (.un .not (tm 29)), [22]), (om 6 30, [23, 22, 0, 1, 2, 3, 4, 5, 6, 7, 8, 9, 10, 11, 12, 13, 14, 15, 16, 17, 18, 19, 20, 21, 22, 23])]) .ret))
theorem fn139 : FnOK Tryz.prog 139 31 [.tmp 6] L139 := ⟨Tryz.f139, Tryz.func139, by kernel_rfl, Tryz.ntmps139, by rw [Tryz.results139], by kernel_rfl⟩
def L140 : LCode :=
 (.seq
 (.ops [ow 6 (.mov (.const (.bool false)))])
 (.seq
 (.dops [(om 9 0, []), (ow 10 (.nilck (tm 9)), [0]), (ow 11 (.faddr 158 (tm 10) 0 0), [1]), (ow 12 (.faddr 29 (tm 11) 2 4), [2]), (ow 13 (.load 26 (tm 12) none), [3]), (om 14 1, []), (ow 15 (.iaddr 26 (tm 13) (tm 14) 5), [4, 5]), (ow 16 (.faddr 49 (tm 15) 1 1), [6]), (ow 17 (.load 3 (tm 16) none), [7]), (om 18 0, []), (ow 19 (.nilck (tm 18)), [9]), (ow 20 (.faddr 158 (tm 19) 0 0), [10]), (ow 21 (.faddr 29 (tm 20) 2 4), [11]), (ow 22 (.load 26 (tm 21) none), [12]), (om 23 2, []), (ow 24 (.iaddr 26 (tm 22) (tm 23) 5), [13, 14]), (ow 25 (.faddr 49 (tm 24) 1 1), [15]), (ow 26 (.load 3 (tm 25) none), [16]), (om 7 17, [8, 0, 1, 2, 3, 4, 5, 6, 7, 8]), (om 8 26, [17, 18, 0, 1, 2, 3, 4, 5, 6, 7, 8, 9, 10, 11, 12, 13, 14, 15, 16, 17, 18])])
 (.seq
 (.ops [om 27 7, om 28 8, ow 29 (.bin .neq 3 (tm 27) (tm 28)), om 30 29, oy 31 30 (.mov (tm 7)), oy 32 30 (.bin .neq 3 (tm 31) (kc (-1))), ow 33 (.pick (tm 30) (tm 32) (.const (.bool false))), om 34 33, oy 35 34 (.mov (tm 8)), oy 36 34 (.bin .neq 3 (tm 35) (kc (-1))), ow 37 (.pick (tm 34) (tm 36) (.const (.bool false))), om 6 37]) .ret)))
theorem fn140 : FnOK Tryz.prog 140 38 [.tmp 6] L140 := ⟨Tryz.f140, Tryz.func140, by kernel_rfl, Tryz.ntmps140, by rw [Tryz.results140], by kernel_rfl⟩
def L141 : LCode :=
 (.seq
 (.ops [ow 6 (.mov (.const (.bool false)))])
 (.seq
 (.dops [(om 9 0, []), (ow 10 (.nilck (tm 9)), [0]), (ow 11 (.faddr 158 (tm 10) 0 0), [1]), (ow 12 (.faddr 29 (tm 11) 2 4), [2]), (ow 13 (.load 26 (tm 12) none), [3]), (om 14 1, []), (ow 15 (.iaddr 26 (tm 13) (tm 14) 5), [4, 5]), (ow 16 (.faddr 49 (tm 15) 2 2), [6]), (ow 17 (.load 43 (tm 16) (some 2)), [7]), (om 18 0, []), (ow 19 (.nilck (tm 18)), [9]), (ow 20 (.faddr 158 (tm 19) 0 0), [10]), (ow 21 (.faddr 29 (tm 20) 2 4), [11]), (ow 22 (.load 26 (tm 21) none), [12]), (om 23 2, []), (ow 24 (.iaddr 26 (tm 22) (tm 23) 5), [13, 14]), (ow 25 (.faddr 49 (tm 24) 2 2), [15]), (ow 26 (.load 43 (tm 25) (some 2)), [16]), (ow 7 (.alloc 43 [(.int .i64 0), (.int .i64 0)]), []), (ow 8 (.alloc 43 [(.int .i64 0), (.int .i64 0)]), []), (⟨none, none, .store 43 (tm 7) (tm 17) 2⟩, [18, 8, 0, 1, 2, 3, 4, 5, 6, 7, 8, 18, 19]), (⟨none, none, .store 43 (tm 8) (tm 26) 2⟩, [19, 17, 20, 0, 1, 2, 3, 4, 5, 6, 7, 8, 9, 10, 11, 12, 13, 14, 15, 16, 17, 18, 19, 20])])
 (.seq
 (.ops [ow 27 (.faddr 43 (tm 7) 0 0), ow 28 (.load 3 (tm 27) none), ow 29 (.faddr 43 (tm 8) 0 0), ow 30 (.load 3 (tm 29) none), ow 31 (.max [3, 3] 3 [(tm 28), (tm 30)]), ow 32 (.faddr 43 (tm 7) 1 1), ow 33 (.load 3 (tm 32) none), ow 34 (.faddr 43 (tm 8) 1 1), ow 35 (.load 3 (tm 34) none), ow 36 (.min [3, 3] 3 [(tm 33), (tm 35)]), ow 37 (.bin .gtr 3 (tm 31) (tm 36)), om 6 37]) .ret)))
theorem fn141 : FnOK Tryz.prog 141 38 [.tmp 6] L141 := ⟨Tryz.f141, Tryz.func141, by kernel_rfl, Tryz.ntmps141, by rw [Tryz.results141], by kernel_rfl⟩
def L142 : LCode :=
 (.seq
 (.ops [ow 6 (.mov (.const (.bool false)))])
 (.seq
 (.ops [om 7 0, ow 8 (.nilck (tm 7)), ow 9 (.faddr 158 (tm 8) 0 0), ow 10 (.faddr 29 (tm 9) 2 4), ow 11 (.load 26 (tm 10) none), om 12 1, ow 13 (.iaddr 26 (tm 11) (tm 12) 5), ow 14 (.faddr 49 (tm 13) 3 4), ow 15 (.load 3 (tm 14) none), om 16 2, ow 17 (.bin .eql 3 (tm 15) (tm 16)), om 18 17, oz 19 18 (.mov (tm 0)), oz 20 18 (.nilck (tm 19)), oz 21 18 (.faddr 158 (tm 20) 0 0), oz 22 18 (.faddr 29 (tm 21) 2 4), oz 23 18 (.load 26 (tm 22) none), oz 24 18 (.mov (tm 2)), oz 25 18 (.iaddr 26 (tm 23) (tm 24) 5), oz 26 18 (.faddr 49 (tm 25) 3 4), oz 27 18 (.load 3 (tm 26) none), oz 28 18 (.mov (tm 1)), oz 29 18 (.bin .eql 3 (tm 27) (tm 28)), ow 30 (.pick (tm 18) (.const (.bool true)) (tm 29)), om 6 30]) .ret))
theorem fn142 : FnOK Tryz.prog 142 31 [.tmp 6] L142 := ⟨Tryz.f142, Tryz.func142, by kernel_rfl, Tryz.ntmps142, by rw [Tryz.results142], by kernel_rfl⟩
def L143 : LCode :=
 (.seq
 (.ops [ow 2 (.mov (.const (.bool false)))])
 (.seq
 (.ops [om 3 0, om 4 0, ow 5 (.bin .neq 3 (tm 3) (tm 4)), om 2 5]) .ret))
theorem fn143 : FnOK Tryz.prog 143 6 [.tmp 2] L143 := ⟨Tryz.f143, Tryz.func143, by kernel_rfl, Tryz.ntmps143, by rw [Tryz.results143], by kernel_rfl⟩
def L144 : LCode :=
 (.seq
 (.ops [ow 2 (.box 25 (tm 0)), ow 4 (.mov (.const (.slice none 0 0))), ow 5 (.mov (kc 0))])
 (.seq
 (.ops [ow 15 (.load 25 (tm 2) (some 3)), ow 16 (.faddr 25 (tm 2) 2 2), ow 17 (.load 23 (tm 16) none), ow 18 (.len false 23 3 (tm 17)), om 19 1, ow 20 (.call 145 [(tm 15), (tm 18), (tm 19)] 180), om 14 20, ow 21 (.extract (tm 14) 0), ow 22 (.extract (tm 14) 1), om 6 21, om 7 22])
 (.seq
 (.seq
 (.ops [om 23 7, ow 24 (.bin .neq 31 (tm 23) (kc 0))])
 (.ite (tm 24)
 (.seq
 (.ops [om 25 7, ow 4 (.mov (.const (.slice none 0 0))), om 5 25]) .ret) .skip))
 (.seq
 (.ops [ow 8 (.mov (kc 0)), ow 9 (.mov (kc (-1)))])
 (.seq
 (.seq
 (.ops [om 26 1, ow 27 (.len false 34 3 (tm 26)), ow 28 (.mov (kc 0))])
 (.block 0
 (.loop
 (.seq
 (.ops [ow 29 (.bin .lss 3 (tm 28) (tm 27))])
 (.seq
 (.ite (tm 29) .skip
 (.exit 0))
 (.seq
 (.block 1
 (.seq
 (.ops [ow 30 (.iaddr 34 (tm 26) (tm 28) 1), ow 31 (.load 3 (tm 30) none), om 11 31])
 (.seq
 (.seq
 (.ops [om 32 11, om 33 9, ow 34 (.bin .leq 3 (tm 32) (tm 33))])
 (.ite (tm 34)
 (.seq
 (.ops [ow 4 (.mov (.const (.slice none 0 0))), ow 5 (.mov (kc 2))]) .ret) .skip))
 (.ops [om 35 8, om 36 11, ow 37 (.bin .shl 3 (kc 1) (tm 36)), ow 38 (.bin .or 3 (tm 35) (tm 37)), om 39 11, om 8 38, om 9 39]))))
 (.ops [ow 40 (.bin .add 3 (tm 28) (kc 1)), om 28 40])))))))
 (.seq
 (.seq
 (.ops [om 41 8, ow 42 (.bin .eql 3 (tm 41) (kc 0))])
 (.ite (tm 42)
 (.seq
 (.ops [ow 4 (.mov (.const (.slice none 0 0))), ow 5 (.mov (kc 2))]) .ret) .skip))
 (.seq
 (.ops [om 44 6, om 45 8, ow 46 (.call 146 [(tm 44), (tm 45)] 185), om 43 46, ow 47 (.extract (tm 43) 0), ow 48 (.extract (tm 43) 1), ow 12 (.alloc 184 [(.int .i64 0), (.int .i64 0), (.int .i64 0), (.int .i64 0), (.int .i64 0), (.int .i64 0)]), ⟨none, none, .store 184 (tm 12) (tm 47) 6⟩, om 13 48])
 (.seq
 (.seq
 (.ops [om 49 13, ow 50 (.bin .eql 3 (tm 49) (kc 0))])
 (.ite (tm 50)
 (.seq
 (.ops [ow 4 (.mov (.const (.slice none 0 0))), ow 5 (.mov (kc 9))]) .ret) .skip))
 (.seq
 (.ops [ow 51 (.load 184 (tm 12) (some 6)), ow 52 (.call 147 [(tm 51)] 34), om 4 52, ow 5 (.mov (kc 0))]) .ret)))))))))
theorem fn144 : FnOK Tryz.prog 144 53 [.tmp 4, .tmp 5] L144 := ⟨Tryz.f144, Tryz.func144, by kernel_rfl, Tryz.ntmps144, by rw [Tryz.results144], by kernel_rfl⟩
def L145 : LCode :=
 (.seq
 (.ops [ow 3 (.box 25 (tm 0)), ow 6 (.mov (.const (.pointer none))), ow 7 (.mov (kc 0))])
 (.seq
 (.ops [ow 12 (.load 25 (tm 3) (some 3)), ow 13 (.call 49 [(tm 12)] 32), om 11 13, ow 14 (.extract (tm 11) 0), ow 15 (.extract (tm 11) 1), ow 16 (.extract (tm 11) 2), om 8 14, om 9 15, om 10 16])
 (.seq
 (.block 0
 (.seq
 (.ops [om 18 10, ow 19 (.bin .neq 31 (tm 18) (kc 0)), om 17 19])
 (.ite (tm 17)
 (.seq
 (.ops [om 20 10, ow 6 (.mov (.const (.pointer none))), om 7 20]) .ret)
 (.seq
 (.ops [om 22 1, ow 23 (.bin .sub 3 (tm 22) (kc 1)), om 24 2, ow 25 (.call 87 [(kc 0), (tm 23), (tm 24)] 4), om 21 25])
 (.ite (tm 21)
 (.seq
 (.ops [ow 6 (.mov (.const (.pointer none))), ow 7 (.mov (kc 4))]) .ret) .skip)))))
 (.seq
 (.ops [ow 26 (.load 25 (tm 3) (some 3)), ow 27 (.call 148 [(tm 26)] 179), om 6 27, ow 7 (.mov (kc 0))]) .ret))))
theorem fn145 : FnOK Tryz.prog 145 28 [.tmp 6, .tmp 7] L145 := ⟨Tryz.f145, Tryz.func145, by kernel_rfl, Tryz.ntmps145, by rw [Tryz.results145], by kernel_rfl⟩
def L146 : LCode :=
 (.seq
 (.ops [ow 4 (.alloc 184 [(.int .i64 0), (.int .i64 0), (.int .i64 0), (.int .i64 0), (.int .i64 0), (.int .i64 0)]), ow 5 (.mov (kc 0))])
 (.seq
 (.seq
 (.ops [om 8 0, ow 9 (.nilck (tm 8)), ow 10 (.faddr 191 (tm 9) 1 3), ow 11 (.load 189 (tm 10) none), ow 12 (.range 189 (tm 11) false)])
 (.block 0
 (.loop
 (.seq
 (.ops [ow 13 (.next (tm 12) false 0), ow 14 (.extract (tm 13) 0)])
 (.seq
 (.ite (tm 14) .skip
 (.exit 0))
 (.block 1
 (.seq
 (.ops [ow 15 (.entry (tm 12)), ow 16 (.extract (tm 15) 0), ow 17 (.extract (tm 15) 1), ow 6 (.alloc 184 [(.int .i64 0), (.int .i64 0), (.int .i64 0), (.int .i64 0), (.int .i64 0), (.int .i64 0)]), ⟨none, none, .store 184 (tm 6) (tm 16) 6⟩, om 7 17])
 (.seq
 (.seq
 (.ops [om 18 7, om 19 1, ow 20 (.bin .and 3 (tm 18) (tm 19)), om 21 1, ow 22 (.bin .neq 3 (tm 20) (tm 21))])
 (.ite (tm 22)
 (.exit 1) .skip))
 (.seq
 (.ops [om 23 5, ow 24 (.bin .add 3 (tm 23) (kc 1)), om 5 24])
 (.seq
 (.ops [om 25 5, ow 26 (.bin .eql 3 (tm 25) (kc 1)), om 27 26, oz 28 27 (.load 184 (tm 6) (some 6)), oz 29 27 (.load 184 (tm 4) (some 6)), oz 30 27 (.call 149 [(tm 28), (tm 29)] 4), ow 31 (.pick (tm 27) (.const (.bool true)) (tm 30))])
 (.ite (tm 31)
 (.ops [ow 32 (.load 184 (tm 6) (some 6)), ⟨none, none, .store 184 (tm 4) (tm 32) 6⟩]) .skip)))))))))))
 (.seq
 (.ops [ow 33 (.load 184 (tm 4) (some 6)), om 34 5, ⟨none, none, .store 184 (tm 4) (tm 33) 6⟩, om 5 34]) .ret)))
theorem fn146 : FnOK Tryz.prog 146 35 [.cell 4 184, .tmp 5] L146 := ⟨Tryz.f146, Tryz.func146, by kernel_rfl, Tryz.ntmps146, by rw [Tryz.results146], by kernel_rfl⟩
def L147 : LCode :=
 (.seq
 (.ops [ow 1 (.box 184 (tm 0)), ow 2 (.mov (.const (.slice none 0 0)))])
 (.seq
 (.ops [ow 4 (.faddr 184 (tm 1) 0 0), ow 5 (.load 3 (tm 4) none), ow 6 (.mslice 34 (tm 5) (tm 5) 3 1 8 [(.int .i64 0)]), om 3 6])
 (.seq
 (.ops [om 7 3, ow 8 (.faddr 184 (tm 1) 1 1), ow 9 (.sliceA 182 (tm 8) none none none 5 1), ow 10 (.copy 34 34 3 (tm 7) (tm 9) 3 1)])
 (.seq
 (.ops [om 11 3, om 2 11]) .ret))))
theorem fn147 : FnOK Tryz.prog 147 12 [.tmp 2] L147 := ⟨Tryz.f147, Tryz.func147, by kernel_rfl, Tryz.ntmps147, by rw [Tryz.results147], by kernel_rfl⟩
def L148 : LCode :=
 (.seq
 (.ops [ow 1 (.box 25 (tm 0)), ow 2 (.mov (.const (.pointer none)))])
 (.seq
 (.ops [ow 6 (.load 25 (tm 1) (some 3)), ow 7 (.mmap 189), ow 8 (.build 191 [(0, (tm 6)), (1, (tm 7))] [(.int .i64 0), (.slice none 0 0), (.slice none 0 0), (.map none)] [(0, 3, (tm 6)), (3, 1, (tm 7))]), ow 9 (.box 191 (tm 8)), ow 3 (.alloc 179 [(.pointer none)]), ⟨none, none, .store 179 (tm 3) (tm 9) 1⟩])
 (.seq
 (.seq
 (.ops [ow 10 (.faddr 25 (tm 1) 2 2), ow 11 (.load 23 (tm 10) none), ow 12 (.len false 23 3 (tm 11)), ow 13 (.mov (kc 0))])
 (.block 0
 (.loop
 (.seq
 (.ops [ow 14 (.bin .lss 3 (tm 13) (tm 12))])
 (.seq
 (.ite (tm 14) .skip
 (.exit 0))
 (.seq
 (.block 1
 (.seq
 (.ops [om 15 13, ow 4 (.alloc 3 [(.int .i64 0)]), ⟨none, none, .store 3 (tm 4) (tm 15) 1⟩])
 (.seq
 (.ops [ow 16 (.load 179 (tm 3) none), ow 17 (.load 3 (tm 4) none), ow 18 (.call 150 [(tm 16), (tm 17)] 194)])
 (.block 2
 (.rfun (tm 18) [19]
 (.ops [ow 5 (.alloc 184 [(.int .i64 0), (.int .i64 0), (.int .i64 0), (.int .i64 0), (.int .i64 0), (.int .i64 0)]), ⟨none, none, .store 184 (tm 5) (tm 19) 6⟩])
 (.block 3
 (.dops [(ow 20 (.load 179 (tm 3) none), []), (ow 21 (.nilck (tm 20)), [0]), (ow 22 (.faddr 191 (tm 21) 1 3), [1]), (ow 23 (.load 189 (tm 22) none), [2]), (ow 24 (.load 184 (tm 5) (some 6)), []), (ow 25 (.lookup 189 (tm 23) (tm 24) false 184 3 [(.int .i64 0)]), [3, 4]), (ow 26 (.load 3 (tm 4) none), []), (ow 27 (.bin .shl 3 (kc 1) (tm 26)), [6]), (ow 28 (.bin .or 3 (tm 25) (tm 27)), [5, 7]), (ow 29 (.mapent 189 (tm 23) (tm 24) 184 3 [(.int .i64 0)]), [3, 4, 0, 1, 2, 3, 4, 6, 7]), (ow 30 (.extract (tm 29) 1), [9]), (⟨none, none, .entst 189 (tm 23) (tm 30) (tm 28)⟩, [3, 10, 8, 9, 0, 1, 2, 3, 4, 5, 6, 7, 8, 9, 10])])))))))
 (.ops [ow 31 (.bin .add 3 (tm 13) (kc 1)), om 13 31])))))))
 (.seq
 (.ops [ow 32 (.load 179 (tm 3) none), om 2 32]) .ret))))
theorem fn148 : FnOK Tryz.prog 148 33 [.tmp 2] L148 := ⟨Tryz.f148, Tryz.func148, by kernel_rfl, Tryz.ntmps148, by rw [Tryz.results148], by kernel_rfl⟩
def L149 : LCode :=
 (.seq
 (.ops [ow 2 (.box 184 (tm 0)), ow 3 (.box 184 (tm 1)), ow 4 (.mov (.const (.bool false)))])
 (.seq
 (.seq
 (.ops [ow 5 (.faddr 184 (tm 2) 1 1), ow 6 (.load 182 (tm 5) (some 5)), ow 7 (.faddr 184 (tm 3) 1 1), ow 8 (.load 182 (tm 7) (some 5)), ow 9 (.eqT false 182 (tm 6) (tm 8)), om 10 9, oz 11 10 (.faddr 184 (tm 2) 0 0), oz 12 10 (.load 3 (tm 11) none), oz 13 10 (.faddr 184 (tm 3) 0 0), oz 14 10 (.load 3 (tm 13) none), oz 15 10 (.bin .neq 3 (tm 12) (tm 14)), ow 16 (.pick (tm 10) (.const (.bool true)) (tm 15))])
 (.ite (tm 16)
 (.seq
 (.ops [ow 17 (.faddr 184 (tm 2) 0 0), ow 18 (.load 3 (tm 17) none), ow 19 (.faddr 184 (tm 3) 0 0), ow 20 (.load 3 (tm 19) none), ow 21 (.bin .lss 3 (tm 18) (tm 20)), om 4 21]) .ret) .skip))
 (.seq
 (.dops [(ow 22 (.faddr 184 (tm 2) 1 1), []), (ow 23 (.sliceA 182 (tm 22) none none none 5 1), [0]), (ow 24 (.faddr 184 (tm 3) 1 1), []), (ow 25 (.sliceA 182 (tm 24) none none none 5 1), [2]), (ow 26 (.call 80 [(tm 23), (tm 25)] 3), [1, 3]), (ow 27 (.bin .lss 3 (tm 26) (kc 0)), [4]), (om 4 27, [5, 4, 0, 1, 2, 3, 4, 5])]) .ret)))
theorem fn149 : FnOK Tryz.prog 149 28 [.tmp 4] L149 := ⟨Tryz.f149, Tryz.func149, by kernel_rfl, Tryz.ntmps149, by rw [Tryz.results149], by kernel_rfl⟩
def L150 : LCode :=
 (.seq
 (.ops [ow 2 (.box 179 (tm 0)), ow 3 (.box 3 (tm 1)), ow 4 (.mov (.const .nilFunc))])
 (.seq
 (.ops [ow 5 (.mkfn (.func 151) [] [(tm 2), (tm 3)]), om 4 5]) .ret))
theorem fn150 : FnOK Tryz.prog 150 6 [.tmp 4] L150 := ⟨Tryz.f150, Tryz.func150, by kernel_rfl, Tryz.ntmps150, by rw [Tryz.results150], by kernel_rfl⟩
def L151 : LCode :=
 (.seq
 (.ops [ow 3 (.box 192 (tm 0))])
 (.seq
 (.ops [ow 6 (.load 179 (tm 1) none), ow 7 (.mkfn (.func 152) [(tm 6)] []), ow 4 (.alloc 67 [.nilFunc]), ⟨none, none, .store 67 (tm 4) (tm 7) 1⟩])
 (.seq
 (.ops [ow 5 (.alloc 196 [.nilFunc])])
 (.seq
 (.ops [ow 8 (.mkfn (.func 153) [] [(tm 1), (tm 2), (tm 3), (tm 5), (tm 4)]), ⟨none, none, .store 196 (tm 5) (tm 8) 1⟩])
 (.ops [ow 9 (.load 196 (tm 5) none), ow 10 (.build 184 [] [(.int .i64 0), (.int .i64 0), (.int .i64 0), (.int .i64 0), (.int .i64 0), (.int .i64 0)] []), ow 11 (.callv (tm 9) [(kc 0), (tm 10)] 4)])))))
theorem fn151 : FnOK Tryz.prog 151 12 [] L151 := ⟨Tryz.f151, Tryz.func151, by kernel_rfl, Tryz.ntmps151, by rw [Tryz.results151], by kernel_rfl⟩
def L152 : LCode :=
 (.seq
 (.ops [ow 8 (.mov (.const (.bool false)))])
 (.seq
 (.ops [om 11 0, ow 12 (.nilck (tm 11)), ow 13 (.faddr 191 (tm 12) 0 0), ow 14 (.faddr 25 (tm 13) 2 2), ow 15 (.load 23 (tm 14) none), om 16 1, ow 17 (.iaddr 23 (tm 15) (tm 16) 2), ow 18 (.load 141 (tm 17) (some 2)), ow 9 (.alloc 141 [(.int .i64 0), (.string ⟨#[]⟩)]), ⟨none, none, .store 141 (tm 9) (tm 18) 2⟩])
 (.seq
 (.dops [(om 19 0, []), (ow 20 (.nilck (tm 19)), [0]), (ow 21 (.faddr 191 (tm 20) 0 0), [1]), (ow 22 (.faddr 25 (tm 21) 1 1), [2]), (ow 23 (.load 22 (tm 22) none), [3]), (ow 24 (.faddr 141 (tm 9) 0 0), []), (ow 25 (.load 3 (tm 24) none), [5]), (ow 26 (.iaddr 22 (tm 23) (tm 25) 2), [4, 6]), (ow 27 (.faddr 125 (tm 26) 1 1), [7]), (ow 28 (.load 123 (tm 27) none), [8]), (om 10 28, [9, 0, 1, 2, 3, 4, 5, 6, 7, 8, 9])])
 (.seq
 (.ops [om 29 10, om 30 10, ow 31 (.faddr 141 (tm 9) 1 1), ow 32 (.load 9 (tm 31) none), om 33 2, ow 34 (.indexS 9 (tm 32) (tm 33)), ow 35 (.call 98 [(tm 30), (tm 34)] 3), ow 36 (.iaddr 123 (tm 29) (tm 35) 3), ow 37 (.load 131 (tm 36) (some 3)), om 38 3, ow 39 (.call 155 [(tm 37), (tm 38)] 4), om 8 39]) .ret))))
theorem fn152 : FnOK Tryz.prog 152 40 [.tmp 8] L152 := ⟨Tryz.f152, Tryz.func152, by kernel_rfl, Tryz.ntmps152, by rw [Tryz.results152], by kernel_rfl⟩
def L153 : LCode :=
 (.seq
 (.ops [ow 8 (.box 184 (tm 1)), ow 9 (.mov (.const (.bool false)))])
 (.scope
 (.seq
 (.seq
 (.dops [(om 12 0, []), (ow 13 (.load 179 (tm 2) none), []), (ow 14 (.nilck (tm 13)), [1]), (ow 15 (.faddr 191 (tm 14) 0 0), [2]), (ow 16 (.faddr 25 (tm 15) 2 2), [3]), (ow 17 (.load 23 (tm 16) none), [4]), (ow 18 (.load 3 (tm 3) none), []), (ow 19 (.iaddr 23 (tm 17) (tm 18) 2), [5, 6]), (ow 20 (.faddr 141 (tm 19) 1 1), [7]), (ow 21 (.load 9 (tm 20) none), [8]), (ow 22 (.len true 9 3 (tm 21)), [9]), (ow 23 (.bin .eql 3 (tm 12) (tm 22)), [0, 10])])
 (.ite (tm 23)
 (.seq
 (.ops [ow 24 (.load 192 (tm 4) none), ow 25 (.load 184 (tm 8) (some 6)), ow 26 (.callv (tm 24) [(tm 25)] 4), om 9 26]) .ret) .skip))
 (.seq
 (.seq
 (.ops [ow 27 (.load 179 (tm 2) none), ow 28 (.load 3 (tm 3) none), om 29 0, ow 30 (.call 154 [(tm 27), (tm 28), (tm 29)] 4), om 31 30, oy 32 31 (.load 196 (tm 5) none), oy 33 31 (.mov (tm 0)), oy 34 31 (.bin .add 3 (tm 33) (kc 1)), oy 35 31 (.load 184 (tm 8) (some 6)), oy 36 31 (.callv (tm 32) [(tm 34), (tm 35)] 4), oy 37 31 (.un .not (tm 36)), ow 38 (.pick (tm 31) (tm 37) (.const (.bool false)))])
 (.ite (tm 38)
 (.seq
 (.ops [ow 9 (.mov (.const (.bool false)))]) .ret) .skip))
 (.seq
 (.label 0)
 (.seq
 (.seq
 (.ops [ow 39 (.load 179 (tm 2) none), ow 40 (.nilck (tm 39)), ow 41 (.faddr 191 (tm 40) 0 0), ow 42 (.faddr 25 (tm 41) 0 0), ow 43 (.load 3 (tm 42) none), ow 44 (.mov (kc 0))])
 (.block 0
 (.loop
 (.seq
 (.ops [ow 45 (.bin .lss 3 (tm 44) (tm 43))])
 (.seq
 (.ite (tm 45) .skip
 (.exit 0))
 (.seq
 (.block 1
 (.seq
 (.ops [om 46 44, om 10 46])
 (.seq
 (.seq
 (.ops [ow 47 (.load 67 (tm 6) none), ow 48 (.load 3 (tm 3) none), om 49 0, om 50 10, ow 51 (.callv (tm 47) [(tm 48), (tm 49), (tm 50)] 4), ow 52 (.un .not (tm 51))])
 (.ite (tm 52)
 (.exit 1) .skip))
 (.seq
 (.ops [ow 53 (.load 184 (tm 8) (some 6)), ow 11 (.alloc 184 [(.int .i64 0), (.int .i64 0), (.int .i64 0), (.int .i64 0), (.int .i64 0), (.int .i64 0)]), ⟨none, none, .store 184 (tm 11) (tm 53) 6⟩])
 (.seq
 (.ops [ow 54 (.faddr 184 (tm 8) 0 0), ow 55 (.load 3 (tm 54) none), om 56 10, ow 57 (.faddr 184 (tm 11) 1 1), ow 58 (.iaddrA 182 (tm 57) (tm 55) 5 1), ⟨none, none, .store 3 (tm 58) (tm 56) 1⟩])
 (.seq
 (.ops [ow 59 (.faddr 184 (tm 11) 0 0), ow 60 (.load 3 (tm 59) none), ow 61 (.bin .add 3 (tm 60) (kc 1)), ow 62 (.faddr 184 (tm 11) 0 0), ⟨none, none, .store 3 (tm 62) (tm 61) 1⟩])
 (.seq
 (.ops [ow 63 (.load 196 (tm 5) none), om 64 0, ow 65 (.bin .add 3 (tm 64) (kc 1)), ow 66 (.load 184 (tm 11) (some 6)), ow 67 (.callv (tm 63) [(tm 65), (tm 66)] 4), ow 68 (.un .not (tm 67))])
 (.ite (tm 68)
 (.seq
 (.ops [ow 9 (.mov (.const (.bool false)))]) .ret) .skip))))))))
 (.ops [ow 69 (.bin .add 3 (tm 44) (kc 1)), om 44 69])))))))
 (.seq
 (.ops [ow 9 (.mov (.const (.bool true)))]) .ret)))))))
theorem fn153 : FnOK Tryz.prog 153 70 [.tmp 9] L153 := ⟨Tryz.f153, Tryz.func153, by kernel_rfl, Tryz.ntmps153, by rw [Tryz.results153], by kernel_rfl⟩
def L154 : LCode :=
 (.seq
 (.ops [ow 6 (.mov (.const (.bool false)))])
 (.seq
 (.ops [om 9 0, ow 10 (.nilck (tm 9)), ow 11 (.faddr 191 (tm 10) 0 0), ow 12 (.faddr 25 (tm 11) 2 2), ow 13 (.load 23 (tm 12) none), om 14 1, ow 15 (.iaddr 23 (tm 13) (tm 14) 2), ow 16 (.load 141 (tm 15) (some 2)), ow 7 (.alloc 141 [(.int .i64 0), (.string ⟨#[]⟩)]), ⟨none, none, .store 141 (tm 7) (tm 16) 2⟩])
 (.seq
 (.dops [(om 17 0, []), (ow 18 (.nilck (tm 17)), [0]), (ow 19 (.faddr 191 (tm 18) 0 0), [1]), (ow 20 (.faddr 25 (tm 19) 1 1), [2]), (ow 21 (.load 22 (tm 20) none), [3]), (ow 22 (.faddr 141 (tm 7) 0 0), []), (ow 23 (.load 3 (tm 22) none), [5]), (ow 24 (.iaddr 22 (tm 21) (tm 23) 2), [4, 6]), (ow 25 (.faddr 125 (tm 24) 1 1), [7]), (ow 26 (.load 123 (tm 25) none), [8]), (om 8 26, [9, 0, 1, 2, 3, 4, 5, 6, 7, 8, 9])])
 (.seq
 (.ops [om 27 8, om 28 8, ow 29 (.faddr 141 (tm 7) 1 1), ow 30 (.load 9 (tm 29) none), om 31 2, ow 32 (.indexS 9 (tm 30) (tm 31)), ow 33 (.call 98 [(tm 28), (tm 32)] 3), ow 34 (.iaddr 123 (tm 27) (tm 33) 3), ow 35 (.faddr 131 (tm 34) 2 2), ow 36 (.load 4 (tm 35) none), om 6 36]) .ret))))
theorem fn154 : FnOK Tryz.prog 154 37 [.tmp 6] L154 := ⟨Tryz.f154, Tryz.func154, by kernel_rfl, Tryz.ntmps154, by rw [Tryz.results154], by kernel_rfl⟩
def L155 : LCode :=
 (.seq
 (.ops [ow 2 (.box 131 (tm 0)), ow 4 (.mov (.const (.bool false)))])
 (.seq
 (.ops [ow 5 (.faddr 131 (tm 2) 1 1), ow 6 (.load 3 (tm 5) none), om 7 1, ow 8 (.bin .shr 3 (tm 6) (tm 7)), ow 9 (.bin .and 3 (tm 8) (kc 1)), ow 10 (.bin .eql 3 (tm 9) (kc 1)), om 4 10]) .ret))
theorem fn155 : FnOK Tryz.prog 155 11 [.tmp 4] L155 := ⟨Tryz.f155, Tryz.func155, by kernel_rfl, Tryz.ntmps155, by rw [Tryz.results155], by kernel_rfl⟩
end Go.Px

namespace Go.Px
open Go.Proofs
theorem drop_cons {α : Type} {l : List α} {k : Nat} {x : α} (h : l[k]? = some x) : l.drop k = x :: l.drop (k + 1) := by
  obtain ⟨hk, rfl⟩ := List.getElem?_eq_some_iff.1 h
  exact List.drop_eq_getElem_cons hk
theorem drop_nil {α : Type} {l : List α} {k : Nat} (h : ¬ k < l.length) : l.drop k = [] := List.drop_eq_nil_of_le (by omega)
theorem ex_get {α : Type} {l : List α} {k : Nat} (h : k < l.length) : ∃ x, l[k]? = some x := ⟨l[k], by simp [h]⟩
def lessL : List Int → List Int → Bool
  | _, [] => false
  | [], _ :: _ => true
  | a :: x, b :: y => if a = b then lessL x y else decide (a < b)
theorem less_ev (a b : List Int) : Ev Tryz.prog 62 [ints a, ints b] (B (lessL a b)) := by
  refine Ev.intro fn62 ?_
  refine LWp.slLen 0 rfl fun ha => ?_
  refine LWp.slLen 1 rfl fun hb => ?_
  simp only [List.length_map] at ha hb
  refine LWp.sx (gs := []) (hs := []) rfl trivial ?_
  refine LWp.sx (gs := []) (hs := []) rfl trivial ?_
  refine LWp.blockX (fun k : Nat => k ≤ a.length ∧ k ≤ b.length ∧ lessL a b = lessL (a.drop k) (b.drop k) ∧ ∀ x y, a[k]? = some x → b[k]? = some y → x ≠ y) (fun k => el [(0, ints a), (1, ints b), (5, I k)]) (fun _ => []) (fun _ => []) ?_ ?_
  · refine LWp.loopN (fun k : Nat => k ≤ a.length ∧ k ≤ b.length ∧ lessL a b = lessL (a.drop k) (b.drop k)) (fun k => el [(0, ints a), (1, ints b), (5, I k)]) (fun _ => []) (fun _ => []) (fun k => a.length - k) 0 ⟨by omega, by omega, rfl⟩
      (Ent.el ⟨rfl, rfl, rfl, trivial⟩) ?_
    rintro k ⟨h1, h2, h3⟩
    by_cases ha' : k < a.length
    · by_cases hb' : k < b.length
      · have hx : a[k]? = some a[k] := by simp
        have hy : b[k]? = some b[k] := by simp
        refine LWp.seq (LWp.seq ?_)
        refine LWp.dd (gs := [(10, true), (16, true)]) (hs := [.cells [I a[k]], .cells [I b[k]]]) hmix rfl (by kernel_rfl) (by simp [ha', hb']) ?_
        refine LWp.ite rfl (fun hc => ?_) (fun hc => ?_)
        · simp only [beq_iff_eq] at hc
          refine LWp.skip ?_
          refine LWp.block ?_
          refine LWp.x (gs := []) (hs := []) rfl ⟨by omega, trivial⟩ ?_
          refine ⟨k + 1, ⟨by omega, by omega, ?_⟩, by omega, Ent.el ⟨rfl, rfl, rfl, trivial⟩⟩
          rw [h3, drop_cons hx, drop_cons hy, lessL, if_pos hc]
        · simp only [beq_eq_false_iff_ne, ne_eq] at hc
          refine LWp.exit ⟨k, ⟨h1, h2, h3, fun u v hu hv => ?_⟩, Ent.el ⟨rfl, rfl, rfl, trivial⟩⟩
          rw [hx] at hu; rw [hy] at hv; cases hu; cases hv; exact hc
      · refine LWp.seq (LWp.seq ?_)
        refine LWp.dd (gs := [(10, true), (16, false)]) (hs := []) hmix rfl (by kernel_rfl) (by simp [ha', hb']) ?_
        refine LWp.ite (b := false) rfl (fun hc => by cases hc) (fun hc => ?_)
        refine LWp.exit ⟨k, ⟨h1, h2, h3, fun u v hu hv => ?_⟩, Ent.el ⟨rfl, rfl, rfl, trivial⟩⟩
        exact absurd (List.getElem?_eq_some_iff.1 hv).1 hb'
    · refine LWp.seq (LWp.seq ?_)
      refine LWp.dd (gs := [(10, false), (16, false)]) (hs := []) hmix rfl (by kernel_rfl) (by simp [ha']) ?_
      refine LWp.ite (b := false) rfl (fun hc => by cases hc) (fun hc => ?_)
      refine LWp.exit ⟨k, ⟨h1, h2, h3, fun u v hu hv => ?_⟩, Ent.el ⟨rfl, rfl, rfl, trivial⟩⟩
      exact absurd (List.getElem?_eq_some_iff.1 hu).1 ha'
  · rintro k ⟨h1, h2, h3, h4⟩
    refine LWp.seq ?_
    refine LWp.sx (gs := []) (hs := []) rfl trivial ?_
    refine LWp.ite rfl (fun hc => ?_) (fun hc => ?_)
    · simp only [List.length_map, beq_iff_eq, Int.natCast_inj] at hc
      refine LWp.sx (gs := []) (hs := []) rfl trivial ?_
      refine LWp.ret (retT (.inr rfl) (.one (.tmp ?_ rfl)))
      show B _ = B _
      rw [h3, drop_nil (l := b) (by omega)]
      cases a.drop k <;> rfl
    · simp only [List.length_map, beq_eq_false_iff_ne, ne_eq, Int.natCast_inj] at hc
      have hb' : k < b.length := by omega
      obtain ⟨y, hy⟩ := ex_get hb'
      refine LWp.skip ?_
      by_cases ha' : k < a.length
      · obtain ⟨x, hx⟩ := ex_get ha'
        have hne : ¬ ((k : Int) = a.length) := by omega
        refine LWp.sd (gs := [(37, false)]) (hs := [.cells [I x], .cells [I y]]) hmix rfl (by kernel_rfl) (by simp [hne, hx, hy]) ?_
        refine LWp.ret (retT (.inr rfl) (.one (.tmp ?_ rfl)))
        show B _ = B _
        rw [h3, drop_cons hx, drop_cons hy, lessL, if_neg (h4 x y hx hy)]
      · have he : ((k : Int) = a.length) := by omega
        refine LWp.sd (gs := [(37, true)]) (hs := []) hmix rfl (by kernel_rfl) (by simp [he]) ?_
        refine LWp.ret (retT (.inr rfl) (.one (.tmp ?_ rfl)))
        show B _ = B _
        rw [h3, drop_nil ha', drop_cons hy]; rfl
def intsEq (a b : List Int) : Bool := decide (a.length = b.length) && (!lessL a b && !lessL b a)
theorem lessL_refl : ∀ a : List Int, lessL a a = false
  | [] => rfl
  | x :: a => by simp [lessL, lessL_refl a]
theorem ints_ev (a b : List Int) : Ev Tryz.prog 19 [ints a, ints b] (B (intsEq a b)) := by
  refine Ev.intro fn19 ?_
  refine LWp.sx (gs := []) (hs := []) rfl trivial ?_
  by_cases h : a.length = b.length
  · cases h1 : lessL a b with
    | true =>
      refine LWp.sx (gs := [(10, true), (16, false)]) (hs := [.ret (B true)]) rfl (by simp [h, ← h1]; exact less_ev a b) ?_
      refine LWp.ret (retT (.inr rfl) (.one (.tmp ?_ rfl)))
      show B _ = B _
      simp [intsEq, h, h1]
    | false =>
      refine LWp.sx (gs := [(10, true), (16, true)]) (hs := [.ret (B false), .ret (B (lessL b a))]) rfl (by simp [h]; exact ⟨by rw [← h1]; exact less_ev a b, less_ev b a⟩) ?_
      refine LWp.ret (retT (.inr rfl) (.one (.tmp ?_ rfl)))
      show B _ = B _
      simp [intsEq, h, h1]
  · have h' : ¬ ((a.length : Int) = b.length) := by omega
    refine LWp.sx (gs := [(10, false), (16, false)]) (hs := []) rfl (by simp; exact h') ?_
    refine LWp.ret (retT (.inr rfl) (.one (.tmp ?_ rfl)))
    show B _ = B _
    simp [intsEq, h]
def fewerL (a b : List Int) : Bool := if a.length = b.length then lessL a b else decide (a.length < b.length)
def bitI (bits k : Int) : Bool := decide (bits / 2 ^ k.toNat % 2 = 1)
def idxF {α : Type} (p : α → Bool) : List α → Int → Int
  | [], _ => -1
  | x :: l, k => if p x = true then k else idxF p l (k + 1)
end Go.Px

namespace Go.Px
open Go.Proofs
structure Letter where
  c : Int
  s : Int
  q : Bool
  deriving DecidableEq
abbrev Str (l : List UInt8) : AV := .v (.string ⟨l.toArray⟩)
abbrev Letter.enc (x : Letter) : List AV := [U x.c, I x.s, B x.q]
structure Alph where
  name : List UInt8
  ls : List Letter
  deriving DecidableEq
abbrev letters (l : List Letter) : AV := .sl 3 (l.map Letter.enc)
abbrev Alph.enc (x : Alph) : List AV := [Str x.name, letters x.ls]
structure Spelling where
  a : Int
  t : List UInt8
  deriving DecidableEq
abbrev Spelling.enc (x : Spelling) : List AV := [I x.a, Str x.t]
structure Book where
  n : Int
  al : List Alph
  ss : List Spelling
  deriving DecidableEq
abbrev alphs (l : List Alph) : AV := .sl 2 (l.map Alph.enc)
abbrev spells (l : List Spelling) : AV := .sl 2 (l.map Spelling.enc)
abbrev Book.enc (b : Book) : List AV := [I b.n, alphs b.al, spells b.ss]
theorem indexI_ev (l : List Int) (g : Nat) (caps : List AV) (p : Int → Bool) (h : ∀ x ∈ l, Ev Tryz.prog g (I x :: caps) (B (p x))) : Ev Tryz.prog 129 [.sl 1 (l.map (fun x => [I x])), .fn (.func g) [] caps] (I (idxF p l 0)) := by
  refine Ev.intro fn129 ?_
  refine LWp.slLen 0 rfl fun ha => ?_
  simp only [List.length_map] at ha
  refine LWp.sx (gs := []) (hs := []) rfl trivial ?_
  refine LWp.seq ?_
  refine LWp.sx (gs := []) (hs := []) rfl trivial ?_
  refine LWp.blockT (fun _ : Unit => idxF p l 0 = -1) (fun _ => el []) (fun _ => []) (fun _ => []) ?_ ?_
  · refine LWp.loopN (fun k : Nat => k ≤ l.length ∧ idxF p l 0 = idxF p (l.drop k) k) (fun k => el [(0, .sl 1 (l.map (fun x => [I x]))), (1, .fn (.func g) [] caps), (7, I l.length), (8, I k)]) (fun _ => []) (fun _ => []) (fun k => l.length - k) 0 ⟨by omega, rfl⟩
      (Ent.el ⟨rfl, rfl, by show I _ = I _; simp, rfl, trivial⟩) ?_
    rintro k ⟨hk, hi⟩
    refine LWp.sx (gs := []) (hs := []) rfl trivial ?_
    refine LWp.seq (LWp.ite rfl (fun hc => ?_) (fun hc => ?_))
    · simp only [decide_eq_true_eq, Int.ofNat_lt] at hc
      obtain ⟨x, hx⟩ := ex_get hc
      rw [drop_cons hx, idxF] at hi
      refine LWp.skip (LWp.seq (LWp.block ?_))
      refine LWp.sx (gs := []) (hs := []) rfl trivial ?_
      refine LWp.seq ?_
      refine LWp.x (gs := []) (hs := [.cells ([I x]), .ret (B (p x))]) rfl ⟨⟨by omega, by simp [hx]⟩, h x (List.mem_of_getElem? hx), trivial⟩ ?_
      refine LWp.ite rfl (fun hb => ?_) (fun hb => ?_)
      · refine LWp.sx (gs := []) (hs := []) rfl trivial ?_
        refine LWp.ret (retT (.inr rfl) (.one (.tmp ?_ rfl)))
        show I _ = I _
        rw [hi, hb]; rfl
      · refine LWp.skip ?_
        refine LWp.x (gs := []) (hs := []) rfl ⟨by omega, trivial⟩ ?_
        exact ⟨k + 1, ⟨hc, by rw [hi, hb]; rfl⟩, by omega, Ent.el ⟨rfl, rfl, rfl, rfl, trivial⟩⟩
    · simp only [decide_eq_false_iff_not, Int.ofNat_lt] at hc
      refine LWp.exit ⟨(), ?_, Ent.el trivial⟩
      rw [hi, drop_nil hc]; rfl
  · intro _ h
    refine LWp.sx (gs := []) (hs := []) rfl trivial ?_
    refine LWp.ret (retT (.inr rfl) (.one (.tmp ?_ rfl)))
    rw [h]; rfl
theorem indexL_ev (l : List Letter) (g : Nat) (caps : List AV) (p : Letter → Bool) (h : ∀ x ∈ l, Ev Tryz.prog g (.agg x.enc :: caps) (B (p x))) : Ev Tryz.prog 127 [.sl 3 (l.map Letter.enc), .fn (.func g) [] caps] (I (idxF p l 0)) := by
  refine Ev.intro fn127 ?_
  refine LWp.slLen 0 rfl fun ha => ?_
  simp only [List.length_map] at ha
  refine LWp.sx (gs := []) (hs := []) rfl trivial ?_
  refine LWp.seq ?_
  refine LWp.sx (gs := []) (hs := []) rfl trivial ?_
  refine LWp.blockT (fun _ : Unit => idxF p l 0 = -1) (fun _ => el []) (fun _ => []) (fun _ => []) ?_ ?_
  · refine LWp.loopN (fun k : Nat => k ≤ l.length ∧ idxF p l 0 = idxF p (l.drop k) k) (fun k => el [(0, .sl 3 (l.map Letter.enc)), (1, .fn (.func g) [] caps), (7, I l.length), (8, I k)]) (fun _ => []) (fun _ => []) (fun k => l.length - k) 0 ⟨by omega, rfl⟩
      (Ent.el ⟨rfl, rfl, by show I _ = I _; simp, rfl, trivial⟩) ?_
    rintro k ⟨hk, hi⟩
    refine LWp.sx (gs := []) (hs := []) rfl trivial ?_
    refine LWp.seq (LWp.ite rfl (fun hc => ?_) (fun hc => ?_))
    · simp only [decide_eq_true_eq, Int.ofNat_lt] at hc
      obtain ⟨x, hx⟩ := ex_get hc
      rw [drop_cons hx, idxF] at hi
      refine LWp.skip (LWp.seq (LWp.block ?_))
      refine LWp.sx (gs := []) (hs := []) rfl trivial ?_
      refine LWp.seq ?_
      refine LWp.x (gs := []) (hs := [.cells (x.enc), .ret (B (p x))]) rfl ⟨⟨by omega, by simp [hx]⟩, h x (List.mem_of_getElem? hx), trivial⟩ ?_
      refine LWp.ite rfl (fun hb => ?_) (fun hb => ?_)
      · refine LWp.sx (gs := []) (hs := []) rfl trivial ?_
        refine LWp.ret (retT (.inr rfl) (.one (.tmp ?_ rfl)))
        show I _ = I _
        rw [hi, hb]; rfl
      · refine LWp.skip ?_
        refine LWp.x (gs := []) (hs := []) rfl ⟨by omega, trivial⟩ ?_
        exact ⟨k + 1, ⟨hc, by rw [hi, hb]; rfl⟩, by omega, Ent.el ⟨rfl, rfl, rfl, rfl, trivial⟩⟩
    · simp only [decide_eq_false_iff_not, Int.ofNat_lt] at hc
      refine LWp.exit ⟨(), ?_, Ent.el trivial⟩
      rw [hi, drop_nil hc]; rfl
  · intro _ h
    refine LWp.sx (gs := []) (hs := []) rfl trivial ?_
    refine LWp.ret (retT (.inr rfl) (.one (.tmp ?_ rfl)))
    rw [h]; rfl
theorem indexA_ev (l : List Alph) (g : Nat) (caps : List AV) (p : Alph → Bool) (h : ∀ x ∈ l, Ev Tryz.prog g (.agg x.enc :: caps) (B (p x))) : Ev Tryz.prog 122 [.sl 2 (l.map Alph.enc), .fn (.func g) [] caps] (I (idxF p l 0)) := by
  refine Ev.intro fn122 ?_
  refine LWp.slLen 0 rfl fun ha => ?_
  simp only [List.length_map] at ha
  refine LWp.sx (gs := []) (hs := []) rfl trivial ?_
  refine LWp.seq ?_
  refine LWp.sx (gs := []) (hs := []) rfl trivial ?_
  refine LWp.blockT (fun _ : Unit => idxF p l 0 = -1) (fun _ => el []) (fun _ => []) (fun _ => []) ?_ ?_
  · refine LWp.loopN (fun k : Nat => k ≤ l.length ∧ idxF p l 0 = idxF p (l.drop k) k) (fun k => el [(0, .sl 2 (l.map Alph.enc)), (1, .fn (.func g) [] caps), (7, I l.length), (8, I k)]) (fun _ => []) (fun _ => []) (fun k => l.length - k) 0 ⟨by omega, rfl⟩
      (Ent.el ⟨rfl, rfl, by show I _ = I _; simp, rfl, trivial⟩) ?_
    rintro k ⟨hk, hi⟩
    refine LWp.sx (gs := []) (hs := []) rfl trivial ?_
    refine LWp.seq (LWp.ite rfl (fun hc => ?_) (fun hc => ?_))
    · simp only [decide_eq_true_eq, Int.ofNat_lt] at hc
      obtain ⟨x, hx⟩ := ex_get hc
      rw [drop_cons hx, idxF] at hi
      refine LWp.skip (LWp.seq (LWp.block ?_))
      refine LWp.sx (gs := []) (hs := []) rfl trivial ?_
      refine LWp.seq ?_
      refine LWp.x (gs := []) (hs := [.cells (x.enc), .ret (B (p x))]) rfl ⟨⟨by omega, by simp [hx]⟩, h x (List.mem_of_getElem? hx), trivial⟩ ?_
      refine LWp.ite rfl (fun hb => ?_) (fun hb => ?_)
      · refine LWp.sx (gs := []) (hs := []) rfl trivial ?_
        refine LWp.ret (retT (.inr rfl) (.one (.tmp ?_ rfl)))
        show I _ = I _
        rw [hi, hb]; rfl
      · refine LWp.skip ?_
        refine LWp.x (gs := []) (hs := []) rfl ⟨by omega, trivial⟩ ?_
        exact ⟨k + 1, ⟨hc, by rw [hi, hb]; rfl⟩, by omega, Ent.el ⟨rfl, rfl, rfl, rfl, trivial⟩⟩
    · simp only [decide_eq_false_iff_not, Int.ofNat_lt] at hc
      refine LWp.exit ⟨(), ?_, Ent.el trivial⟩
      rw [hi, drop_nil hc]; rfl
  · intro _ h
    refine LWp.sx (gs := []) (hs := []) rfl trivial ?_
    refine LWp.ret (retT (.inr rfl) (.one (.tmp ?_ rfl)))
    rw [h]; rfl
theorem idxF_iff {α : Type} (p : α → Bool) : ∀ (l : List α) (k : Int), 0 ≤ k → (0 ≤ idxF p l k ↔ l.any p = true)
  | [], k, h => by simp [idxF]
  | x :: l, k, h => by
    have ih := idxF_iff p l (k + 1) (by omega)
    cases hp : p x with
    | true =>
      have : idxF p (x :: l) k = k := by simp only [idxF, hp, if_true]
      rw [this]; simp [hp, h]
    | false =>
      have : idxF p (x :: l) k = idxF p l (k + 1) := by simp only [idxF, hp, if_false, Bool.false_eq_true]
      rw [this, ih]; simp [hp]
theorem idxF_ge {α : Type} (p : α → Bool) (l : List α) (k : Int) (h : 0 ≤ k) : (decide (idxF p l k ≥ 0)) = l.any p :=
  Bool.eq_iff_iff.2 (by rw [decide_eq_true_iff]; exact idxF_iff p l k h)
theorem containsI_ev (l : List Int) (g : Nat) (caps : List AV) (p : Int → Bool) (h : ∀ x ∈ l, Ev Tryz.prog g (I x :: caps) (B (p x))) : Ev Tryz.prog 99 [.sl 1 (l.map (fun x => [I x])), .fn (.func g) [] caps] (B (l.any p)) := by
  refine Ev.intro fn99 ?_
  refine LWp.sx (gs := []) (hs := []) rfl trivial ?_
  refine LWp.sx (gs := []) (hs := [.ret (I (idxF p l 0))]) rfl ⟨indexI_ev l g caps p h, trivial⟩ ?_
  refine LWp.ret (retT (.inr rfl) (.one (.tmp ?_ rfl)))
  show B _ = B _
  rw [idxF_ge p l 0 (by omega)]
theorem containsA_ev (l : List Alph) (g : Nat) (caps : List AV) (p : Alph → Bool) (h : ∀ x ∈ l, Ev Tryz.prog g (.agg x.enc :: caps) (B (p x))) : Ev Tryz.prog 91 [.sl 2 (l.map Alph.enc), .fn (.func g) [] caps] (B (l.any p)) := by
  refine Ev.intro fn91 ?_
  refine LWp.sx (gs := []) (hs := []) rfl trivial ?_
  refine LWp.sx (gs := []) (hs := [.ret (I (idxF p l 0))]) rfl ⟨indexA_ev l g caps p h, trivial⟩ ?_
  refine LWp.ret (retT (.inr rfl) (.one (.tmp ?_ rfl)))
  show B _ = B _
  rw [idxF_ge p l 0 (by omega)]
def failF (f : Nat → Int) : Nat → Nat → Int × Int
  | 0, _ => (0, 0)
  | m + 1, k => if f k = 0 then failF f m (k + 1) else ((k : Int), f k)
theorem failingA_ev (l : List Alph) (g : Nat) (caps : List AV) (f : Nat → Int) (h : ∀ (i : Nat) (x : Alph), l[i]? = some x → Ev Tryz.prog g (I i :: .agg x.enc :: caps) (I (f i))) :
    Ev Tryz.prog 88 [.sl 2 (l.map Alph.enc), .fn (.func g) [] caps] (.tup [I (failF f l.length 0).1, I (failF f l.length 0).2]) := by
  refine Ev.intro fn88 ?_
  refine LWp.slLen 0 rfl fun ha => ?_
  simp only [List.length_map] at ha
  refine LWp.sx (gs := []) (hs := []) rfl trivial ?_
  refine LWp.seq ?_
  refine LWp.sx (gs := []) (hs := []) rfl trivial ?_
  refine LWp.blockT (fun _ : Unit => failF f l.length 0 = (0, 0)) (fun _ => el []) (fun _ => []) (fun _ => []) ?_ ?_
  · refine LWp.loopN (fun k : Nat => k ≤ l.length ∧ failF f l.length 0 = failF f (l.length - k) k) (fun k => el [(1, .fn (.func g) [] caps), (9, .sl 2 (l.map Alph.enc)), (10, I l.length), (11, I k)]) (fun _ => []) (fun _ => []) (fun k => l.length - k) 0 ⟨by omega, rfl⟩
      (Ent.el ⟨rfl, rfl, by show I _ = I _; simp, rfl, trivial⟩) ?_
    rintro k ⟨hk, hi⟩
    refine LWp.sx (gs := []) (hs := []) rfl trivial ?_
    refine LWp.seq (LWp.ite rfl (fun hc => ?_) (fun hc => ?_))
    · simp only [decide_eq_true_eq, Int.ofNat_lt] at hc
      obtain ⟨x, hx⟩ := ex_get hc
      rw [show l.length - k = (l.length - (k + 1)) + 1 by omega, failF] at hi
      refine LWp.skip (LWp.seq (LWp.block ?_))
      refine LWp.sx (gs := []) (hs := [.cells x.enc, .lin]) rfl ⟨⟨by omega, by simp [hx]⟩, rfl, ⟨rfl, rfl, rfl, by decide⟩, trivial⟩ ?_
      refine LWp.sx (gs := []) (hs := [.ret (I (f k))]) rfl ⟨h k x hx, trivial⟩ ?_
      refine LWp.seq ?_
      refine LWp.x (gs := []) (hs := []) rfl trivial ?_
      refine LWp.ite rfl (fun hb => ?_) (fun hb => ?_)
      · simp only [bne_iff_ne, ne_eq] at hb
        rw [if_neg hb] at hi
        refine LWp.sx (gs := []) (hs := []) rfl trivial ?_
        refine LWp.ret (retT (.inr rfl) (.many (by decide) ⟨.tmp ?_ rfl, .tmp ?_ rfl, trivial⟩))
        · show I _ = I _
          rw [hi]
        · show I _ = I _
          rw [hi]
      · simp only [bne_eq_false_iff_eq] at hb
        rw [if_pos hb] at hi
        refine LWp.skip ?_
        refine LWp.x (gs := []) (hs := []) rfl ⟨by omega, trivial⟩ ?_
        exact ⟨k + 1, ⟨hc, hi⟩, by omega, Ent.el ⟨rfl, rfl, rfl, rfl, trivial⟩⟩
    · simp only [decide_eq_false_iff_not, Int.ofNat_lt] at hc
      refine LWp.exit ⟨(), ?_, Ent.el trivial⟩
      rw [hi, show l.length - k = 0 by omega]; rfl
  · intro _ h
    refine LWp.sx (gs := []) (hs := []) rfl trivial ?_
    refine LWp.ret (retT (.inr rfl) (.many (by decide) ⟨.tmp ?_ rfl, .tmp ?_ rfl, trivial⟩))
    · rw [h]; rfl
    · rw [h]; rfl
theorem failingL_ev (l : List Letter) (g : Nat) (caps : List AV) (f : Nat → Int) (h : ∀ (i : Nat) (x : Letter), l[i]? = some x → Ev Tryz.prog g (I i :: .agg x.enc :: caps) (I (f i))) :
    Ev Tryz.prog 93 [.sl 3 (l.map Letter.enc), .fn (.func g) [] caps] (.tup [I (failF f l.length 0).1, I (failF f l.length 0).2]) := by
  refine Ev.intro fn93 ?_
  refine LWp.slLen 0 rfl fun ha => ?_
  simp only [List.length_map] at ha
  refine LWp.sx (gs := []) (hs := []) rfl trivial ?_
  refine LWp.seq ?_
  refine LWp.sx (gs := []) (hs := []) rfl trivial ?_
  refine LWp.blockT (fun _ : Unit => failF f l.length 0 = (0, 0)) (fun _ => el []) (fun _ => []) (fun _ => []) ?_ ?_
  · refine LWp.loopN (fun k : Nat => k ≤ l.length ∧ failF f l.length 0 = failF f (l.length - k) k) (fun k => el [(1, .fn (.func g) [] caps), (9, .sl 3 (l.map Letter.enc)), (10, I l.length), (11, I k)]) (fun _ => []) (fun _ => []) (fun k => l.length - k) 0 ⟨by omega, rfl⟩
      (Ent.el ⟨rfl, rfl, by show I _ = I _; simp, rfl, trivial⟩) ?_
    rintro k ⟨hk, hi⟩
    refine LWp.sx (gs := []) (hs := []) rfl trivial ?_
    refine LWp.seq (LWp.ite rfl (fun hc => ?_) (fun hc => ?_))
    · simp only [decide_eq_true_eq, Int.ofNat_lt] at hc
      obtain ⟨x, hx⟩ := ex_get hc
      rw [show l.length - k = (l.length - (k + 1)) + 1 by omega, failF] at hi
      refine LWp.skip (LWp.seq (LWp.block ?_))
      refine LWp.sx (gs := []) (hs := [.cells x.enc, .lin]) rfl ⟨⟨by omega, by simp [hx]⟩, rfl, ⟨rfl, rfl, rfl, by decide⟩, trivial⟩ ?_
      refine LWp.sx (gs := []) (hs := [.ret (I (f k))]) rfl ⟨h k x hx, trivial⟩ ?_
      refine LWp.seq ?_
      refine LWp.x (gs := []) (hs := []) rfl trivial ?_
      refine LWp.ite rfl (fun hb => ?_) (fun hb => ?_)
      · simp only [bne_iff_ne, ne_eq] at hb
        rw [if_neg hb] at hi
        refine LWp.sx (gs := []) (hs := []) rfl trivial ?_
        refine LWp.ret (retT (.inr rfl) (.many (by decide) ⟨.tmp ?_ rfl, .tmp ?_ rfl, trivial⟩))
        · show I _ = I _
          rw [hi]
        · show I _ = I _
          rw [hi]
      · simp only [bne_eq_false_iff_eq] at hb
        rw [if_pos hb] at hi
        refine LWp.skip ?_
        refine LWp.x (gs := []) (hs := []) rfl ⟨by omega, trivial⟩ ?_
        exact ⟨k + 1, ⟨hc, hi⟩, by omega, Ent.el ⟨rfl, rfl, rfl, rfl, trivial⟩⟩
    · simp only [decide_eq_false_iff_not, Int.ofNat_lt] at hc
      refine LWp.exit ⟨(), ?_, Ent.el trivial⟩
      rw [hi, show l.length - k = 0 by omega]; rfl
  · intro _ h
    refine LWp.sx (gs := []) (hs := []) rfl trivial ?_
    refine LWp.ret (retT (.inr rfl) (.many (by decide) ⟨.tmp ?_ rfl, .tmp ?_ rfl, trivial⟩))
    · rw [h]; rfl
    · rw [h]; rfl
theorem failingS_ev (l : List Spelling) (g : Nat) (caps : List AV) (f : Nat → Int) (h : ∀ (i : Nat) (x : Spelling), l[i]? = some x → Ev Tryz.prog g (I i :: .agg x.enc :: caps) (I (f i))) :
    Ev Tryz.prog 96 [.sl 2 (l.map Spelling.enc), .fn (.func g) [] caps] (.tup [I (failF f l.length 0).1, I (failF f l.length 0).2]) := by
  refine Ev.intro fn96 ?_
  refine LWp.slLen 0 rfl fun ha => ?_
  simp only [List.length_map] at ha
  refine LWp.sx (gs := []) (hs := []) rfl trivial ?_
  refine LWp.seq ?_
  refine LWp.sx (gs := []) (hs := []) rfl trivial ?_
  refine LWp.blockT (fun _ : Unit => failF f l.length 0 = (0, 0)) (fun _ => el []) (fun _ => []) (fun _ => []) ?_ ?_
  · refine LWp.loopN (fun k : Nat => k ≤ l.length ∧ failF f l.length 0 = failF f (l.length - k) k) (fun k => el [(1, .fn (.func g) [] caps), (9, .sl 2 (l.map Spelling.enc)), (10, I l.length), (11, I k)]) (fun _ => []) (fun _ => []) (fun k => l.length - k) 0 ⟨by omega, rfl⟩
      (Ent.el ⟨rfl, rfl, by show I _ = I _; simp, rfl, trivial⟩) ?_
    rintro k ⟨hk, hi⟩
    refine LWp.sx (gs := []) (hs := []) rfl trivial ?_
    refine LWp.seq (LWp.ite rfl (fun hc => ?_) (fun hc => ?_))
    · simp only [decide_eq_true_eq, Int.ofNat_lt] at hc
      obtain ⟨x, hx⟩ := ex_get hc
      rw [show l.length - k = (l.length - (k + 1)) + 1 by omega, failF] at hi
      refine LWp.skip (LWp.seq (LWp.block ?_))
      refine LWp.sx (gs := []) (hs := [.cells x.enc, .lin]) rfl ⟨⟨by omega, by simp [hx]⟩, rfl, ⟨rfl, rfl, rfl, by decide⟩, trivial⟩ ?_
      refine LWp.sx (gs := []) (hs := [.ret (I (f k))]) rfl ⟨h k x hx, trivial⟩ ?_
      refine LWp.seq ?_
      refine LWp.x (gs := []) (hs := []) rfl trivial ?_
      refine LWp.ite rfl (fun hb => ?_) (fun hb => ?_)
      · simp only [bne_iff_ne, ne_eq] at hb
        rw [if_neg hb] at hi
        refine LWp.sx (gs := []) (hs := []) rfl trivial ?_
        refine LWp.ret (retT (.inr rfl) (.many (by decide) ⟨.tmp ?_ rfl, .tmp ?_ rfl, trivial⟩))
        · show I _ = I _
          rw [hi]
        · show I _ = I _
          rw [hi]
      · simp only [bne_eq_false_iff_eq] at hb
        rw [if_pos hb] at hi
        refine LWp.skip ?_
        refine LWp.x (gs := []) (hs := []) rfl ⟨by omega, trivial⟩ ?_
        exact ⟨k + 1, ⟨hc, hi⟩, by omega, Ent.el ⟨rfl, rfl, rfl, rfl, trivial⟩⟩
    · simp only [decide_eq_false_iff_not, Int.ofNat_lt] at hc
      refine LWp.exit ⟨(), ?_, Ent.el trivial⟩
      rw [hi, show l.length - k = 0 by omega]; rfl
  · intro _ h
    refine LWp.sx (gs := []) (hs := []) rfl trivial ?_
    refine LWp.ret (retT (.inr rfl) (.many (by decide) ⟨.tmp ?_ rfl, .tmp ?_ rfl, trivial⟩))
    · rw [h]; rfl
    · rw [h]; rfl
theorem beyond1_ev (n lo hi : Int) : Ev Tryz.prog 121 [I n, .pi [I lo], .pi [I hi]] (B (decide (n < lo) || decide (n > hi))) := by
  refine Ev.intro fn121 ?_
  refine LWp.sx (gs := []) (hs := []) rfl trivial ?_
  by_cases h : n < lo
  · refine LWp.sx (gs := [(8, true)]) (hs := []) rfl (by simp [h]) ?_
    refine LWp.ret (retT (.inr rfl) (.one (.tmp ?_ rfl)))
    show B _ = B _
    simp [h]
  · refine LWp.sx (gs := [(8, false)]) (hs := []) rfl (by simp [h]) ?_
    refine LWp.ret (retT (.inr rfl) (.one (.tmp ?_ rfl)))
    show B _ = B _
    simp [h]
def beyondB (lo hi : Int) (l : List Int) : Bool := l.any fun n => decide (n < lo) || decide (n > hi)
theorem beyond_ev (lo hi : Int) (l : List Int) : Ev Tryz.prog 87 [I lo, I hi, ints l] (B (beyondB lo hi l)) := by
  refine Ev.intro fn87 ?_
  refine LWp.sx (gs := []) (hs := [.ice, .ice]) rfl ⟨⟨rfl, rfl⟩, ⟨rfl, rfl⟩, trivial⟩ ?_
  refine LWp.sx (gs := []) (hs := [.ret (B (beyondB lo hi l))]) rfl ⟨containsI_ev l _ _ _ (fun n _ => beyond1_ev n lo hi), trivial⟩ ?_
  refine LWp.ret (retT (.inr rfl) (.one (.tmp ?_ rfl)))
  rfl
theorem index1_ev (x : Letter) (c : Int) : Ev Tryz.prog 128 [.agg x.enc, .pi [U c]] (B (x.c == c)) := by
  refine Ev.intro fn128 ?_
  refine LWp.sx (gs := []) (hs := [.ice]) rfl ⟨⟨rfl, rfl⟩, trivial⟩ ?_
  refine LWp.sx (gs := []) (hs := []) rfl trivial ?_
  refine LWp.ret (retT (.inr rfl) (.one (.tmp ?_ rfl)))
  rfl
def indexC (l : List Letter) (c : Int) : Int := idxF (fun x => x.c == c) l 0
theorem index_ev (l : List Letter) (c : Int) : Ev Tryz.prog 98 [letters l, U c] (I (indexC l c)) := by
  refine Ev.intro fn98 ?_
  refine LWp.sx (gs := []) (hs := [.ice]) rfl ⟨⟨rfl, rfl⟩, trivial⟩ ?_
  refine LWp.sx (gs := []) (hs := [.ret (I (indexC l c))]) rfl ⟨indexL_ev l _ _ _ (fun x _ => index1_ev x c), trivial⟩ ?_
  refine LWp.ret (retT (.inr rfl) (.one (.tmp ?_ rfl)))
  rfl
def givesB (s k : Int) : Bool := ((((s / 2 ^ k.toNat).toNat &&& (1 : Int).toNat : Nat) : Int) == 1)
theorem gives_ev (x : Letter) (k : Int) (h0 : 0 ≤ x.s) (h1 : x.s < 9223372036854775808) (hk : 0 ≤ k) (hk2 : k < 64) : Ev Tryz.prog 155 [.agg x.enc, I k] (B (givesB x.s k)) := by
  have hq : 0 ≤ x.s / 2 ^ k.toNat := Int.ediv_nonneg h0 (Int.le_of_lt (Int.pow_pos (by omega)))
  have hq2 : x.s / 2 ^ k.toNat ≤ x.s := Int.ediv_le_self _ h0
  refine Ev.intro fn155 ?_
  refine LWp.sx (gs := []) (hs := [.ice]) rfl ⟨⟨rfl, rfl⟩, trivial⟩ ?_
  refine LWp.sx (gs := []) (hs := []) rfl ⟨⟨h0, hk, hk2⟩, ⟨⟨hq, by omega⟩, by omega, by omega⟩, trivial⟩ ?_
  refine LWp.ret (retT (.inr rfl) (.one (.tmp ?_ rfl)))
  rfl
end Go.Px

namespace Go.Px
open Go.Proofs
theorem decode_hi (s : ByteArray) (p : Nat) (h : 128 ≤ (s.get! p).toNat) : 128 ≤ (Utf8.decode s p).1 := by
  unfold Utf8.decode
  simp only [Nat.add_zero]
  rw [if_neg (by omega)]
  repeat' split
  all_goals simp_all [Utf8.runeError]
  all_goals omega
theorem decode_lo (s : ByteArray) (p : Nat) (h : (s.get! p).toNat < 128) : Utf8.decode s p = ((s.get! p).toNat, 1) := by
  unfold Utf8.decode
  simp only [Nat.add_zero]
  rw [if_pos (by omega)]
def okc (i : Nat) (c : Nat) : Bool := (decide (97 ≤ c) && decide (c ≤ 122)) || (decide (0 < i) && (c == 46 || (decide (48 ≤ c) && decide (c ≤ 57))))
def allN : List UInt8 → Nat → Bool
  | [], _ => true
  | c :: l, i => okc i c.toNat && allN l (i + 1)
def nameB (l : List UInt8) : Bool := allN l 0 && (decide (1 ≤ l.length) && decide (l.length ≤ 16))
theorem name_ev (l : List UInt8) (hl : l.length ≤ 9223372036854775807) : Ev Tryz.prog 90 [Str l] (B (nameB l)) := by
  refine Ev.intro fn90 ?_
  refine LWp.sx (gs := []) (hs := []) rfl trivial ?_
  refine LWp.seq (LWp.seq (LWp.ops ?_))
  refine WOps.x (gs := []) (hs := []) rfl trivial ?_
  refine WOps.cons (Op1.rangeS rfl (fun b => ?_))
  refine WOps.xd (gs := []) (hs := []) rfl trivial ?_
  refine LWp.blockT (fun _ : Unit => allN l 0 = true) (fun _ => el [(0, Str l)]) (fun _ => []) (fun _ => []) ?_ ?_
  · refine LWp.loopN (fun k : Nat => k ≤ l.length ∧ allN l 0 = allN (l.drop k) k) (fun k => el [(0, Str l), (7, .po b 0)]) (fun k => [(b, .raw (.stringIter ⟨l.toArray⟩ k))]) (fun _ => []) (fun k => l.length - k) 0 ⟨by omega, rfl⟩
      (Ent.el ⟨rfl, rfl, trivial⟩) ?_
    rintro k ⟨hk, hi⟩
    refine LWp.seq (LWp.ops (WOps.cons (Op1.nextS (i := 0) rfl rfl (fun hp => ?_) (fun hp => ?_))))
    · simp only [List.size_toArray, ByteArray.size] at hp
      obtain ⟨c, hc⟩ := ex_get hp
      have hg : (ByteArray.mk l.toArray).get! k = c := by
        have h2 := (List.getElem?_eq_some_iff.1 hc).2
        show l.toArray[k]! = c
        rw [getElem!_pos l.toArray k (by simpa using hp)]
        simpa using h2
      rw [drop_cons hc, allN] at hi
      have hwd : 128 ≤ c.toNat → 128 ≤ (Utf8.decode ⟨l.toArray⟩ k).1 := fun h => decode_hi _ _ (by rw [hg]; exact h)
      have hwl : c.toNat < 128 → Utf8.decode ⟨l.toArray⟩ k = (c.toNat, 1) := fun h => by rw [decode_lo _ _ (by rw [hg]; exact h), hg]
      generalize hde : Utf8.decode ⟨l.toArray⟩ k = de at hwd hwl
      obtain ⟨u, wd⟩ := de
      simp only at hwd
      refine WOps.xd (gs := []) (hs := []) rfl trivial ?_
      refine LWp.seq (LWp.ite (b := true) rfl (fun _ => LWp.skip ?_) (fun h => by cases h))
      refine LWp.block ?_
      refine LWp.sx (gs := []) (hs := []) rfl trivial ?_
      refine LWp.cutX (fun _ : Unit => True) (fun _ => el [(0, Str l), (7, .po b 0), (3, I k), (4, .v (.int .i32 u)), (5, B (decide (97 ≤ u) && decide (u ≤ 122)))]) (fun _ => [(b, .raw (.stringIter ⟨l.toArray⟩ (k + wd)))]) (fun _ => []) ?_ ?_
      · by_cases h1 : 97 ≤ u
        · refine LWp.x (gs := [(14, true)]) (hs := []) rfl (by simp; omega) ?_
          exact ⟨(), trivial, Ent.el ⟨rfl, rfl, rfl, rfl, by show B _ = B _; simp [h1]; omega, trivial⟩⟩
        · refine LWp.x (gs := [(14, false)]) (hs := []) rfl (by simp; omega) ?_
          exact ⟨(), trivial, Ent.el ⟨rfl, rfl, rfl, rfl, by show B _ = B _; simp [h1], trivial⟩⟩
      intro _ _
      refine LWp.cutX (fun _ : Unit => True) (fun _ => el [(0, Str l), (7, .po b 0), (35, B (!okc k u))]) (fun _ => [(b, .raw (.stringIter ⟨l.toArray⟩ (k + wd)))]) (fun _ => []) ?_ ?_
      · cases hlt : (decide (97 ≤ u) && decide (u ≤ 122)) with
        | true =>
          refine LWp.x (gs := [(20, false)]) (hs := []) rfl (by simp) ?_
          exact ⟨(), trivial, Ent.el ⟨rfl, rfl, by show B _ = B _; simp [okc, hlt], trivial⟩⟩
        | false =>
          by_cases h0 : k = 0
          · refine LWp.x (gs := [(20, true), (23, true)]) (hs := []) rfl (by simp [h0]) ?_
            exact ⟨(), trivial, Ent.el ⟨rfl, rfl, by show B _ = B _; simp [okc, hlt, h0], trivial⟩⟩
          · by_cases h1 : u = 46
            · refine LWp.x (gs := [(20, true), (23, false), (26, false)]) (hs := []) rfl (by simp [h0, h1]) ?_
              exact ⟨(), trivial, Ent.el ⟨rfl, rfl, by show B _ = B _; simp [okc, h1]; omega, trivial⟩⟩
            · by_cases h2 : u < 48
              · refine LWp.x (gs := [(20, true), (23, false), (26, true), (29, true)]) (hs := []) rfl (by simp [h0]; omega) ?_
                exact ⟨(), trivial, Ent.el ⟨rfl, rfl, by show B _ = B _; simp [okc, hlt, h1]; omega, trivial⟩⟩
              · refine LWp.x (gs := [(20, true), (23, false), (26, true), (29, false)]) (hs := []) rfl (by simp [h0]; omega) ?_
                have e : decide ((u : Int) > 57) = !okc k u := by
                  rw [Bool.eq_iff_iff]; simp [okc, hlt, h1]; omega
                exact ⟨(), trivial, Ent.el ⟨rfl, rfl, by rw [← e]; rfl, trivial⟩⟩
      intro _ _
      refine LWp.ite rfl (fun hb => ?_) (fun hb => ?_)
      · simp only [Bool.not_eq_true'] at hb
        refine LWp.sx (gs := []) (hs := []) rfl trivial ?_
        refine LWp.ret (retT (.inr rfl) (.one (.tmp ?_ rfl)))
        show B _ = B _
        have : okc k c.toNat = false := by
          by_cases hlt : c.toNat < 128
          · have := hwl hlt; cases this; exact hb
          · have := hwd (by omega)
            simp [okc]; omega
        simp [nameB, hi, this]
      · simp only [Bool.not_eq_false'] at hb
        have hu : u < 128 := by
          simp only [okc, Bool.or_eq_true, Bool.and_eq_true, decide_eq_true_eq, beq_iff_eq] at hb
          omega
        have hlt : c.toNat < 128 := by
          rcases Nat.lt_or_ge c.toNat 128 with h | h
          · exact h
          · have := hwd h; omega
        have := hwl hlt
        cases this
        refine LWp.skip ⟨k + 1, ⟨hp, by rw [hi, hb, Bool.true_and]⟩, by omega, Ent.el ⟨rfl, rfl, trivial⟩⟩
    · simp only [List.size_toArray, ByteArray.size] at hp
      refine WOps.xd (gs := []) (hs := []) rfl trivial ?_
      refine LWp.seq (LWp.ite (b := false) rfl (fun h => by cases h) (fun _ => LWp.exit ⟨(), ?_, ?_⟩))
      · rw [hi, drop_nil hp]; rfl
      · exact Ent.trans (Ent.dropH 0) (Ent.el ⟨rfl, trivial⟩)
  · intro _ h
    refine LWp.sx (gs := []) (hs := [.ice, .ret (B (beyondB 1 16 [(l.length : Int)]))]) rfl ⟨rfl, beyond_ev 1 16 [(l.length : Int)], trivial⟩ ?_
    refine LWp.ret (retT (.inr rfl) (.one (.tmp ?_ rfl)))
    have : (!beyondB 1 16 [(l.length : Int)]) = nameB l := by
      rw [Bool.eq_iff_iff]; simp [nameB, h, beyondB]; omega
    rw [← this]; rfl
end Go.Px

namespace Go.Px
open Go.Proofs
structure Letter.wf (x : Letter) : Prop where
  c0 : 0 ≤ x.c
  c1 : x.c < 256
  s0 : -9223372036854775808 ≤ x.s
  s1 : x.s ≤ 9223372036854775807
theorem pow2_le {k : Nat} (h : k ≤ 61) : (2 : Int) ^ k ≤ 2305843009213693952 := by
  have h1 : 2 ^ k ≤ 2 ^ 61 := Nat.pow_le_pow_right (by omega) h
  have h2 : ((2 ^ k : Nat) : Int) = (2 : Int) ^ k := by simp
  rw [← h2]; omega
theorem flaws1_ev (l : List Letter) (i : Nat) (x : Letter) (hx : l[i]? = some x) (hw : x.wf) : Ev Tryz.prog 123 [letters l, I i] (B (beyondB 97 122 [x.c])) := by
  refine Ev.intro fn123 ?_
  refine LWp.sx (gs := []) (hs := []) rfl trivial ?_
  refine LWp.sx (gs := []) (hs := [.cells x.enc, .ice, .ret (B (beyondB 97 122 [x.c]))]) rfl ⟨⟨by omega, by simp [hx]⟩, i64_wrap (by have := hw.c0; omega) (by have := hw.c1; omega), rfl, beyond_ev 97 122 [x.c], trivial⟩ ?_
  refine LWp.ret (retT (.inr rfl) (.one (.tmp ?_ rfl)))
  rfl
theorem flaws2_ev (l : List Letter) (i : Nat) (x : Letter) (hx : l[i]? = some x) : Ev Tryz.prog 124 [letters l, I i] (B (decide (indexC (l.take i) x.c ≥ 0))) := by
  have hlt := (List.getElem?_eq_some_iff.1 hx).1
  refine Ev.intro fn124 ?_
  refine LWp.sx (gs := []) (hs := []) rfl trivial ?_
  refine LWp.sd (gs := []) (hs := [.cells x.enc, .retS [letters (l.take i), U x.c] (I (indexC (l.take i) x.c))]) hmix rfl (by kernel_rfl) ⟨⟨⟨trivial, by omega⟩, by simp, by simp; omega⟩, ⟨by omega, by simp [hx]⟩, ⟨index_ev _ _, subL_self (by show [AV.sl 3 ((l.map Letter.enc).take i), U x.c] = _; rw [letters, List.map_take])⟩, trivial⟩ ?_
  refine LWp.ret (retT (.inr rfl) (.one (.tmp ?_ rfl)))
  rfl
theorem flaws3_ev (l : List Letter) (i : Nat) (x : Letter) (n : Int) (hx : l[i]? = some x) (h0 : 0 ≤ n) (h1 : n < 62) : Ev Tryz.prog 125 [letters l, I i, .pi [I n]] (B (beyondB 0 (2 ^ n.toNat - 1) [x.s])) := by
  have hp : (2 : Int) ^ n.toNat < 9223372036854775808 := by
    have := pow2_le (k := n.toNat) (by omega)
    omega
  have hp0 : (0 : Int) < 2 ^ n.toNat := Int.pow_pos (by omega)
  have e : (1 : Int) * 2 ^ n.toNat - 1 = 2 ^ n.toNat - 1 := by omega
  refine Ev.intro fn125 ?_
  refine LWp.sx (gs := []) (hs := []) rfl trivial ?_
  refine LWp.sd (gs := []) (hs := [.cells x.enc, .ice, .ret (B (beyondB 0 (1 * 2 ^ n.toNat - 1) [x.s]))]) hmix rfl (by kernel_rfl) ⟨⟨by omega, h0, by omega, by omega⟩, ⟨by omega, by omega⟩, ⟨by omega, by simp [hx]⟩, rfl, beyond_ev 0 (1 * 2 ^ n.toNat - 1) [x.s], trivial⟩ ?_
  refine LWp.ret (retT (.inr rfl) (.one (.tmp ?_ rfl)))
  rw [← e]; rfl
theorem flaws4_ev (l : List Letter) (i : Nat) (x : Letter) (hx : l[i]? = some x) : Ev Tryz.prog 126 [letters l, I i] (B (x.s == 0 && !x.q)) := by
  refine Ev.intro fn126 ?_
  refine LWp.sx (gs := []) (hs := []) rfl trivial ?_
  by_cases h : x.s = 0
  · refine LWp.sx (gs := [(11, true)]) (hs := [.cells x.enc, .cells x.enc]) rfl (by simp [hx, h]) ?_
    refine LWp.ret (retT (.inr rfl) (.one (.tmp ?_ rfl)))
    show B _ = B _
    simp [h]
  · refine LWp.sx (gs := [(11, false)]) (hs := [.cells x.enc]) rfl (by simp [hx, h]) ?_
    refine LWp.ret (retT (.inr rfl) (.one (.tmp ?_ rfl)))
    show B _ = B _
    simp [h]
def flawsA (n : Int) : List (List AV) := [[I 6, .fn (.func 123) [] []], [I 5, .fn (.func 124) [] []], [I 7, .fn (.func 125) [] [.pi [I n]]], [I 2, .fn (.func 126) [] []]]
theorem flaws_ev (n : Int) : Ev Tryz.prog 95 [I n] (.sl 2 (flawsA n)) := by
  refine Ev.intro fn95 ?_
  refine LWp.sx (gs := []) (hs := [.ice]) rfl ⟨⟨rfl, rfl⟩, trivial⟩ ?_
  refine LWp.sx (gs := []) (hs := [.ice]) rfl ⟨rfl, trivial⟩ ?_
  refine LWp.ret (retT (.inr rfl) (.one (.tmp ?_ rfl)))
  rfl
def letterErr (n : Int) (ls : List Letter) (i : Nat) : Int := match ls[i]? with
  | none => 0
  | some x => if beyondB 97 122 [x.c] = true then 6 else if decide (indexC (ls.take i) x.c ≥ 0) = true then 5 else if beyondB 0 (2 ^ n.toNat - 1) [x.s] = true then 7 else if (x.s == 0 && !x.q) = true then 2 else 0
def Prev (n : Int) (ls : List Letter) (i : Nat) (x : Letter) : Nat → Prop
  | 0 => True
  | 1 => beyondB 97 122 [x.c] = false
  | 2 => beyondB 97 122 [x.c] = false ∧ decide (indexC (ls.take i) x.c ≥ 0) = false
  | 3 => beyondB 97 122 [x.c] = false ∧ decide (indexC (ls.take i) x.c ≥ 0) = false ∧ beyondB 0 (2 ^ n.toNat - 1) [x.s] = false
  | _ => beyondB 97 122 [x.c] = false ∧ decide (indexC (ls.take i) x.c ≥ 0) = false ∧ beyondB 0 (2 ^ n.toNat - 1) [x.s] = false ∧ (x.s == 0 && !x.q) = false
theorem check12_ev (b : Book) (a : Alph) (i : Nat) (x : Letter) (hx : a.ls[i]? = some x) (hw : x.wf) (h0 : 0 ≤ b.n) (h1 : b.n < 62) : Ev Tryz.prog 94 [I i, .agg x.enc, .pi b.enc, .pi a.enc] (I (letterErr b.n a.ls i)) := by
  refine Ev.intro fn94 ?_
  refine LWp.sx (gs := []) (hs := [.ice]) rfl ⟨⟨rfl, rfl⟩, trivial⟩ ?_
  refine LWp.seq ?_
  refine LWp.sx (gs := []) (hs := [.ret (.sl 2 (flawsA b.n))]) rfl ⟨flaws_ev b.n, trivial⟩ ?_
  refine LWp.blockT (fun _ : Unit => Prev b.n a.ls i x 4) (fun _ => el []) (fun _ => []) (fun _ => []) ?_ ?_
  · refine LWp.loopN (fun k : Nat => k ≤ 4 ∧ Prev b.n a.ls i x k) (fun k => el [(0, I i), (3, .pi a.enc), (11, .sl 2 (flawsA b.n)), (12, I 4), (13, I k)]) (fun _ => []) (fun _ => []) (fun k => 4 - k) 0 ⟨by omega, trivial⟩
      (Ent.el ⟨rfl, rfl, rfl, rfl, rfl, trivial⟩) ?_
    rintro k ⟨hk, hp⟩
    refine LWp.sx (gs := []) (hs := []) rfl trivial ?_
    refine LWp.seq (LWp.ite rfl (fun hc => ?_) (fun hc => ?_))
    · simp only [decide_eq_true_eq] at hc
      have hc' : k < 4 := by omega
      refine LWp.skip (LWp.seq (LWp.block ?_))
      obtain rfl | rfl | rfl | rfl : k = 0 ∨ k = 1 ∨ k = 2 ∨ k = 3 := by omega
      · refine LWp.sx (gs := []) (hs := [.cells [I 6, .fn (.func 123) [] []], .lin]) rfl ⟨⟨by omega, rfl⟩, rfl, ⟨rfl, rfl, rfl, by decide⟩, trivial⟩ ?_
        refine LWp.ent (Ent.freezeLbox (t := 8) rfl) ?_
        refine LWp.seq ?_
        refine LWp.x (gs := []) (hs := [.ret (B (beyondB 97 122 [x.c]))]) rfl ⟨flaws1_ev a.ls i x hx hw, trivial⟩ ?_
        refine LWp.ite rfl (fun hb => ?_) (fun hb => ?_)
        · refine LWp.sx (gs := []) (hs := []) rfl trivial ?_
          refine LWp.ret (retT (.inr rfl) (.one (.tmp ?_ rfl)))
          show I _ = I _
          simp only [letterErr, hx, Prev] at hp ⊢
          first | (simp [hb]; done) | simp [hp, hb]
        · refine LWp.skip ?_
          refine LWp.x (gs := []) (hs := []) rfl ⟨by omega, trivial⟩ ?_
          exact ⟨0 + 1, ⟨by omega, by simp only [Prev] at hp ⊢; first | (simp [hb]; done) | simp [hp, hb]⟩, by omega, Ent.el ⟨rfl, rfl, rfl, rfl, rfl, trivial⟩⟩

      · refine LWp.sx (gs := []) (hs := [.cells [I 5, .fn (.func 124) [] []], .lin]) rfl ⟨⟨by omega, rfl⟩, rfl, ⟨rfl, rfl, rfl, by decide⟩, trivial⟩ ?_
        refine LWp.ent (Ent.freezeLbox (t := 8) rfl) ?_
        refine LWp.seq ?_
        refine LWp.x (gs := []) (hs := [.ret (B (decide (indexC (a.ls.take i) x.c ≥ 0)))]) rfl ⟨flaws2_ev a.ls i x hx, trivial⟩ ?_
        refine LWp.ite rfl (fun hb => ?_) (fun hb => ?_)
        · refine LWp.sx (gs := []) (hs := []) rfl trivial ?_
          refine LWp.ret (retT (.inr rfl) (.one (.tmp ?_ rfl)))
          show I _ = I _
          simp only [letterErr, hx, Prev] at hp ⊢
          first | (simp [hb]; done) | simp [hp, hb]
        · refine LWp.skip ?_
          refine LWp.x (gs := []) (hs := []) rfl ⟨by omega, trivial⟩ ?_
          exact ⟨1 + 1, ⟨by omega, by simp only [Prev] at hp ⊢; first | (simp [hb]; done) | simp [hp, hb]⟩, by omega, Ent.el ⟨rfl, rfl, rfl, rfl, rfl, trivial⟩⟩

      · refine LWp.sx (gs := []) (hs := [.cells [I 7, .fn (.func 125) [] [.pi [I b.n]]], .lin]) rfl ⟨⟨by omega, rfl⟩, rfl, ⟨rfl, rfl, rfl, by decide⟩, trivial⟩ ?_
        refine LWp.ent (Ent.freezeLbox (t := 8) rfl) ?_
        refine LWp.seq ?_
        refine LWp.x (gs := []) (hs := [.ret (B (beyondB 0 (2 ^ b.n.toNat - 1) [x.s]))]) rfl ⟨flaws3_ev a.ls i x b.n hx h0 h1, trivial⟩ ?_
        refine LWp.ite rfl (fun hb => ?_) (fun hb => ?_)
        · refine LWp.sx (gs := []) (hs := []) rfl trivial ?_
          refine LWp.ret (retT (.inr rfl) (.one (.tmp ?_ rfl)))
          show I _ = I _
          simp only [letterErr, hx, Prev] at hp ⊢
          first | (simp [hb]; done) | simp [hp, hb]
        · refine LWp.skip ?_
          refine LWp.x (gs := []) (hs := []) rfl ⟨by omega, trivial⟩ ?_
          exact ⟨2 + 1, ⟨by omega, by simp only [Prev] at hp ⊢; first | (simp [hb]; done) | simp [hp, hb]⟩, by omega, Ent.el ⟨rfl, rfl, rfl, rfl, rfl, trivial⟩⟩

      · refine LWp.sx (gs := []) (hs := [.cells [I 2, .fn (.func 126) [] []], .lin]) rfl ⟨⟨by omega, rfl⟩, rfl, ⟨rfl, rfl, rfl, by decide⟩, trivial⟩ ?_
        refine LWp.ent (Ent.freezeLbox (t := 8) rfl) ?_
        refine LWp.seq ?_
        refine LWp.x (gs := []) (hs := [.ret (B (x.s == 0 && !x.q))]) rfl ⟨flaws4_ev a.ls i x hx, trivial⟩ ?_
        refine LWp.ite rfl (fun hb => ?_) (fun hb => ?_)
        · refine LWp.sx (gs := []) (hs := []) rfl trivial ?_
          refine LWp.ret (retT (.inr rfl) (.one (.tmp ?_ rfl)))
          show I _ = I _
          simp only [letterErr, hx, Prev] at hp ⊢
          first | (simp [hb]; done) | simp [hp, hb]
        · refine LWp.skip ?_
          refine LWp.x (gs := []) (hs := []) rfl ⟨by omega, trivial⟩ ?_
          exact ⟨3 + 1, ⟨by omega, by simp only [Prev] at hp ⊢; first | (simp [hb]; done) | simp [hp, hb]⟩, by omega, Ent.el ⟨rfl, rfl, rfl, rfl, rfl, trivial⟩⟩

    · simp only [decide_eq_false_iff_not] at hc
      have : k = 4 := by omega
      subst this
      exact LWp.exit ⟨(), hp, Ent.el trivial⟩
  · intro _ hp
    refine LWp.sx (gs := []) (hs := []) rfl trivial ?_
    refine LWp.ret (retT (.inr rfl) (.one (.tmp ?_ rfl)))
    simp only [letterErr, hx, Prev] at hp ⊢
    obtain ⟨h1, h2, h3, h4⟩ := hp
    rw [h1, h2, h3, h4]; rfl
theorem check11_ev (x a : Alph) : Ev Tryz.prog 92 [.agg x.enc, .pi a.enc] (B (x.name == a.name)) := by
  refine Ev.intro fn92 ?_
  refine LWp.sx (gs := []) (hs := [.ice]) rfl ⟨⟨rfl, rfl⟩, trivial⟩ ?_
  refine LWp.sx (gs := []) (hs := []) rfl trivial ?_
  refine LWp.ret (retT (.inr rfl) (.one (.tmp ?_ rfl)))
  show B _ = B _
  simp
end Go.Px

namespace Go.Px
open Go.Proofs
structure Alph.wf (a : Alph) : Prop where
  name : a.name.length ≤ 9223372036854775807
  ls : ∀ x ∈ a.ls, x.wf
structure Spelling.wf (s : Spelling) : Prop where
  a0 : -9223372036854775808 ≤ s.a
  a1 : s.a ≤ 9223372036854775807
  t : s.t.length ≤ 9223372036854775807
structure Book.wf (b : Book) : Prop where
  n0 : -9223372036854775808 ≤ b.n
  n1 : b.n ≤ 9223372036854775807
  al : ∀ a ∈ b.al, a.wf
  ss : ∀ s ∈ b.ss, s.wf
def alphErr (b : Book) (i : Nat) : Int := match b.al[i]? with
  | none => 0
  | some a => if nameB a.name = true then (if (b.al.take i).any (fun x => x.name == a.name) = true then 5 else if beyondB 1 6 [(a.ls.length : Int)] = true then 3 else (failF (letterErr b.n a.ls) a.ls.length 0).2) else 6
theorem check1_ev (b : Book) (i : Nat) (a : Alph) (ha : b.al[i]? = some a) (hw : a.wf) (h0 : 0 ≤ b.n) (h1 : b.n < 62) : Ev Tryz.prog 89 [I i, .agg a.enc, .pi b.enc] (I (alphErr b i)) := by
  have hlt := (List.getElem?_eq_some_iff.1 ha).1
  refine Ev.intro fn89 ?_
  refine LWp.sx (gs := []) (hs := [.ice]) rfl ⟨⟨rfl, rfl⟩, trivial⟩ ?_
  refine LWp.blockX (fun _ : Unit => alphErr b i = (failF (letterErr b.n a.ls) a.ls.length 0).2) (fun _ => el [(2, .pi b.enc), (4, .pi a.enc)]) (fun _ => []) (fun _ => []) ?_ ?_
  · refine LWp.sx (gs := []) (hs := [.ret (B (nameB a.name))]) rfl ⟨name_ev a.name hw.name, trivial⟩ ?_
    refine LWp.ite rfl (fun hc => ?_) (fun hc => ?_)
    · simp only [Bool.not_eq_true'] at hc
      refine LWp.sx (gs := []) (hs := []) rfl trivial ?_
      refine LWp.ret (retT (.inr rfl) (.one (.tmp ?_ rfl)))
      show I _ = I _
      simp [alphErr, ha, hc]
    · simp only [Bool.not_eq_false'] at hc
      refine LWp.sx (gs := []) (hs := [.retS [alphs (b.al.take i), .fn (.func 92) [] [.pi a.enc]] (B ((b.al.take i).any (fun x => x.name == a.name)))]) rfl ⟨⟨⟨trivial, by omega⟩, by simp, by simp; omega⟩, ⟨containsA_ev _ _ _ _ (fun x _ => check11_ev x a), subL_self (by show [AV.sl 2 ((b.al.map Alph.enc).take i), .fn (.func 92) [] [.pi a.enc]] = _; rw [← List.map_take])⟩, trivial⟩ ?_
      refine LWp.ite rfl (fun hd => ?_) (fun hd => ?_)
      · refine LWp.sx (gs := []) (hs := []) rfl trivial ?_
        refine LWp.ret (retT (.inr rfl) (.one (.tmp ?_ rfl)))
        show I _ = I _
        simp only [alphErr, ha, hc, hd, if_true]
      · refine LWp.sx (gs := []) (hs := [.ice, .ret (B (beyondB 1 6 [((a.ls.map Letter.enc).length : Int)]))]) rfl ⟨rfl, beyond_ev 1 6 [((a.ls.map Letter.enc).length : Int)], trivial⟩ ?_
        refine LWp.ite rfl (fun he => ?_) (fun he => ?_) <;> rw [List.length_map] at he
        · refine LWp.sx (gs := []) (hs := []) rfl trivial ?_
          refine LWp.ret (retT (.inr rfl) (.one (.tmp ?_ rfl)))
          show I _ = I _
          simp only [alphErr, ha, hc, hd, he, if_true, if_false, Bool.false_eq_true]
        · refine LWp.skip ⟨(), ?_, Ent.el ⟨rfl, rfl, trivial⟩⟩
          simp only [alphErr, ha, hc, hd, he, if_true, if_false, Bool.false_eq_true]
  · intro _ he
    refine LWp.sx (gs := []) (hs := [.ret (.tup [I (failF (letterErr b.n a.ls) a.ls.length 0).1, I (failF (letterErr b.n a.ls) a.ls.length 0).2])]) rfl ⟨failingL_ev a.ls _ _ _ (fun k x hx => check12_ev b a k x hx (hw.ls x (List.mem_of_getElem? hx)) h0 h1), trivial⟩ ?_
    refine LWp.sx (gs := []) (hs := []) rfl trivial ?_
    refine LWp.ret (retT (.inr rfl) (.one (.tmp ?_ rfl)))
    rw [he]; rfl
def spellErr (b : Book) (i : Nat) : Int := match b.ss[i]? with
  | none => 0
  | some s => if beyondB 0 ((b.al.length : Int) - 1) [s.a] = true then 4 else if beyondB 1 5 [(s.t.length : Int)] = true then 3 else match b.al[s.a.toNat]? with
    | none => 0
    | some a => if s.t.all (fun c => decide (0 ≤ indexC a.ls c.toNat)) = true then 0 else 6
theorem check2_ev (b : Book) (i : Nat) (s : Spelling) (hs : b.ss[i]? = some s) (hw : s.wf) (hal : b.al.length < 100) : Ev Tryz.prog 97 [I i, .agg s.enc, .pi b.enc] (I (spellErr b i)) := by
  refine Ev.intro fn97 ?_
  have ht := hw.t
  refine LWp.sx (gs := []) (hs := [.ice]) rfl ⟨⟨rfl, rfl⟩, trivial⟩ ?_
  refine LWp.blockX (fun _ : Unit => ∃ a, 0 ≤ s.a ∧ b.al[s.a.toNat]? = some a ∧ spellErr b i = if s.t.all (fun c => decide (0 ≤ indexC a.ls c.toNat)) = true then 0 else 6) (fun _ => el [(2, .pi b.enc), (4, .pi s.enc)]) (fun _ => []) (fun _ => []) ?_ ?_
  · refine LWp.sx (gs := []) (hs := [.ice, .ret (B (beyondB 0 (((b.al.map Alph.enc).length : Int) - 1) [s.a]))]) rfl ⟨by simp; omega, rfl, beyond_ev 0 (((b.al.map Alph.enc).length : Int) - 1) [s.a], trivial⟩ ?_
    refine LWp.ite rfl (fun hc => ?_) (fun hc => ?_) <;> rw [List.length_map] at hc
    · refine LWp.sx (gs := []) (hs := []) rfl trivial ?_
      refine LWp.ret (retT (.inr rfl) (.one (.tmp ?_ rfl)))
      show I _ = I _
      simp only [spellErr, hs, hc, if_true]
    · refine LWp.sx (gs := []) (hs := [.ice, .ret (B (beyondB 1 5 [(s.t.length : Int)]))]) rfl ⟨rfl, beyond_ev 1 5 [(s.t.length : Int)], trivial⟩ ?_
      refine LWp.ite rfl (fun hd => ?_) (fun hd => ?_)
      · refine LWp.sx (gs := []) (hs := []) rfl trivial ?_
        refine LWp.ret (retT (.inr rfl) (.one (.tmp ?_ rfl)))
        show I _ = I _
        simp only [spellErr, hs, hc, hd, if_true, if_false, Bool.false_eq_true]
      · have hc' := hc
        simp only [beyondB, List.any_cons, List.any_nil, Bool.or_false, Bool.or_eq_false_iff, decide_eq_false_iff_not] at hc'
        have hlt : s.a.toNat < b.al.length := by omega
        obtain ⟨a, ha⟩ := ex_get hlt
        refine LWp.skip ⟨(), ⟨a, by omega, ha, ?_⟩, Ent.el ⟨rfl, rfl, trivial⟩⟩
        simp only [spellErr, hs, hc, hd, ha, if_false, Bool.false_eq_true]
  · rintro _ ⟨a, ha0, ha, he⟩
    refine LWp.seq ?_
    refine LWp.sx (gs := []) (hs := []) rfl trivial ?_
    refine LWp.blockT (fun _ : Unit => spellErr b i = 0) (fun _ => el []) (fun _ => []) (fun _ => []) ?_ ?_
    · refine LWp.loopN (fun k : Nat => k ≤ s.t.length ∧ (s.t.all (fun c => decide (0 ≤ indexC a.ls c.toNat)) = (s.t.drop k).all (fun c => decide (0 ≤ indexC a.ls c.toNat)))) (fun k => el [(2, .pi b.enc), (4, .pi s.enc), (24, I s.t.length), (25, I k)]) (fun _ => []) (fun _ => []) (fun k => s.t.length - k) 0 ⟨by omega, rfl⟩
        (Ent.el ⟨rfl, rfl, rfl, rfl, trivial⟩) ?_
      rintro k ⟨hk, hi⟩
      refine LWp.sx (gs := []) (hs := []) rfl trivial ?_
      refine LWp.seq (LWp.ite rfl (fun hc => ?_) (fun hc => ?_))
      · simp only [decide_eq_true_eq, Int.ofNat_lt] at hc
        obtain ⟨c, hx⟩ := ex_get hc
        rw [drop_cons hx, List.all_cons] at hi
        refine LWp.skip (LWp.seq (LWp.block ?_))
        refine LWp.sx (gs := []) (hs := []) rfl trivial ?_
        refine LWp.seq ?_
        refine LWp.dd (gs := []) (hs := [.cells a.enc, .byte c, .ret (I (indexC a.ls c.toNat))]) hmix rfl (by kernel_rfl) ⟨⟨ha0, by simp [ha]⟩, ⟨by omega, by simpa using hx⟩, index_ev a.ls c.toNat, trivial⟩ ?_
        refine LWp.ite rfl (fun hb => ?_) (fun hb => ?_)
        · simp only [decide_eq_true_eq] at hb
          refine LWp.sx (gs := []) (hs := []) rfl trivial ?_
          refine LWp.ret (retT (.inr rfl) (.one (.tmp ?_ rfl)))
          show I _ = I _
          have : decide (0 ≤ indexC a.ls c.toNat) = false := by simp; omega
          rw [he, hi, this]; rfl
        · simp only [decide_eq_false_iff_not] at hb
          refine LWp.skip ?_
          refine LWp.x (gs := []) (hs := []) rfl ⟨by omega, trivial⟩ ?_
          have : decide (0 ≤ indexC a.ls c.toNat) = true := by simp; omega
          exact ⟨k + 1, ⟨hc, by rw [hi, this]; rfl⟩, by omega, Ent.el ⟨rfl, rfl, rfl, rfl, trivial⟩⟩
      · simp only [decide_eq_false_iff_not, Int.ofNat_lt] at hc
        refine LWp.exit ⟨(), ?_, Ent.el trivial⟩
        rw [he, hi, drop_nil hc]; rfl
    · intro _ h
      refine LWp.sx (gs := []) (hs := []) rfl trivial ?_
      refine LWp.ret (retT (.inr rfl) (.one (.tmp ?_ rfl)))
      rw [h]; rfl
def check (b : Book) : Int × Int × Int :=
  if beyondB 1 4 [b.n] = true then (1, 0, 7) else if beyondB 1 3 [(b.al.length : Int)] = true then (2, 0, 3) else
  if (failF (alphErr b) b.al.length 0).2 = 0 then
    (if 5 < b.ss.length then (3, 0, 3) else if (failF (spellErr b) b.ss.length 0).2 = 0 then (0, 0, 0) else (3, (failF (spellErr b) b.ss.length 0).1, (failF (spellErr b) b.ss.length 0).2))
  else (2, (failF (alphErr b) b.al.length 0).1, (failF (alphErr b) b.al.length 0).2)
theorem check_ev (b : Book) (hw : b.wf) : Ev Tryz.prog 49 [.agg b.enc] (.tup [I (check b).1, I (check b).2.1, I (check b).2.2]) := by
  refine Ev.intro fn49 ?_
  refine LWp.sx (gs := []) (hs := [.ice]) rfl ⟨⟨rfl, rfl⟩, trivial⟩ ?_
  have res : ∀ {env : Env} {H : Heap} {p q r : Int}, check b = (p, q, r) → env 2 = I p → env 3 = I q → env 4 = I r → retP Tryz.prog [.tmp 2, .tmp 3, .tmp 4] (.tup [I (check b).1, I (check b).2.1, I (check b).2.2]) .ret env H [] := by
    intro env H p q r h h2 h3 h4
    rw [h]
    exact retT (.inr rfl) (.many (by decide) ⟨.tmp h2 rfl, .tmp h3 rfl, .tmp h4 rfl, trivial⟩)
  refine LWp.blockX (fun _ : Unit => beyondB 1 4 [b.n] = false ∧ beyondB 1 3 [(b.al.length : Int)] = false) (fun _ => el [(1, .pi b.enc)]) (fun _ => []) (fun _ => []) ?_ ?_
  · refine LWp.sx (gs := []) (hs := [.ice, .ret (B (beyondB 1 4 [b.n]))]) rfl ⟨rfl, beyond_ev 1 4 [b.n], trivial⟩ ?_
    refine LWp.ite rfl (fun hc => ?_) (fun hc => ?_)
    · refine LWp.sx (gs := []) (hs := []) rfl trivial ?_
      exact LWp.ret (res (p := 1) (q := 0) (r := 7) (by simp only [check, hc, if_true]) rfl rfl rfl)
    · refine LWp.sx (gs := []) (hs := [.ice, .ret (B (beyondB 1 3 [((b.al.map Alph.enc).length : Int)]))]) rfl ⟨rfl, beyond_ev 1 3 [((b.al.map Alph.enc).length : Int)], trivial⟩ ?_
      refine LWp.ite rfl (fun hd => ?_) (fun hd => ?_) <;> rw [List.length_map] at hd
      · refine LWp.sx (gs := []) (hs := []) rfl trivial ?_
        exact LWp.ret (res (p := 2) (q := 0) (r := 3) (by simp only [check, hc, hd, if_true, if_false, Bool.false_eq_true]) rfl rfl rfl)
      · exact LWp.skip ⟨(), ⟨hc, hd⟩, Ent.el ⟨rfl, trivial⟩⟩
  rintro _ ⟨hc, hd⟩
  have hc' := hc
  have hd' := hd
  simp only [beyondB, List.any_cons, List.any_nil, Bool.or_false, Bool.or_eq_false_iff, decide_eq_false_iff_not] at hc' hd'
  refine LWp.sx (gs := []) (hs := [.ret (.tup [I (failF (alphErr b) b.al.length 0).1, I (failF (alphErr b) b.al.length 0).2])]) rfl ⟨failingA_ev b.al _ _ _ (fun k a ha => check1_ev b k a ha (hw.al a (List.mem_of_getElem? ha)) (by omega) (by omega)), trivial⟩ ?_
  refine LWp.blockX (fun _ : Unit => (failF (alphErr b) b.al.length 0).2 = 0 ∧ ¬ 5 < b.ss.length) (fun _ => el [(1, .pi b.enc)]) (fun _ => []) (fun _ => []) ?_ ?_
  · refine LWp.sx (gs := []) (hs := []) rfl trivial ?_
    refine LWp.ite rfl (fun he => ?_) (fun he => ?_)
    · simp only [bne_iff_ne, ne_eq] at he
      refine LWp.sx (gs := []) (hs := []) rfl trivial ?_
      exact LWp.ret (res (p := 2) (q := (failF (alphErr b) b.al.length 0).1) (r := (failF (alphErr b) b.al.length 0).2) (by simp only [check, hc, hd, he, if_false, Bool.false_eq_true]) rfl rfl rfl)
    · simp only [bne_eq_false_iff_eq] at he
      refine LWp.sx (gs := []) (hs := []) rfl trivial ?_
      refine LWp.ite rfl (fun hf => ?_) (fun hf => ?_)
      · simp only [List.length_map, decide_eq_true_eq] at hf
        have hf' : 5 < b.ss.length := by omega
        refine LWp.sx (gs := []) (hs := []) rfl trivial ?_
        exact LWp.ret (res (p := 3) (q := 0) (r := 3) (by simp only [check, hc, hd, he, hf', if_true, if_false, Bool.false_eq_true]) rfl rfl rfl)
      · simp only [List.length_map, decide_eq_false_iff_not] at hf
        exact LWp.skip ⟨(), ⟨he, by omega⟩, Ent.el ⟨rfl, trivial⟩⟩
  rintro _ ⟨he, hf⟩
  refine LWp.sx (gs := []) (hs := [.ret (.tup [I (failF (spellErr b) b.ss.length 0).1, I (failF (spellErr b) b.ss.length 0).2])]) rfl ⟨failingS_ev b.ss _ _ _ (fun k s hs => check2_ev b k s hs (hw.ss s (List.mem_of_getElem? hs)) (by omega)), trivial⟩ ?_
  refine LWp.seq (LWp.seq ?_)
  refine LWp.x (gs := []) (hs := []) rfl trivial ?_
  refine LWp.ite rfl (fun hg => ?_) (fun hg => ?_)
  · simp only [bne_iff_ne, ne_eq] at hg
    refine LWp.sx (gs := []) (hs := []) rfl trivial ?_
    exact LWp.ret (res (p := 3) (q := (failF (spellErr b) b.ss.length 0).1) (r := (failF (spellErr b) b.ss.length 0).2) (by simp only [check, hc, hd, he, hf, hg, if_true, if_false, Bool.false_eq_true]) rfl rfl rfl)
  · simp only [bne_eq_false_iff_eq] at hg
    refine LWp.skip ?_
    refine LWp.sx (gs := []) (hs := []) rfl trivial ?_
    exact LWp.ret (res (p := 0) (q := 0) (r := 0) (by simp only [check, hc, hd, he, hf, hg, if_true, if_false, Bool.false_eq_true]) rfl rfl rfl)
end Go.Px

namespace Go.Px
open Go.Proofs
abbrev bp (b : Book) (m : AV) : AV := .pi (b.enc ++ [m])
structure SpOK (b : Book) (i : Nat) (s : Spelling) (a : Alph) (xs : List Letter) : Prop where
  hs : b.ss[i]? = some s
  a0 : 0 ≤ s.a
  ha : b.al[s.a.toNat]? = some a
  len : xs.length = s.t.length
  at_ : ∀ (k : Nat) (c : UInt8), s.t[k]? = some c → 0 ≤ indexC a.ls c.toNat ∧ ∃ x, a.ls[(indexC a.ls c.toNat).toNat]? = some x ∧ xs[k]? = some x
  snd : ∀ x ∈ xs, 0 ≤ x.s ∧ x.s < 9223372036854775808
  t5 : s.t.length ≤ 5
section
variable {b : Book} {i : Nat} {s : Spelling} {a : Alph} {xs : List Letter}
theorem SpOK.get (h : SpOK b i s a xs) {k : Nat} {x : Letter} (hx : xs[k]? = some x) : ∃ c, s.t[k]? = some c ∧ 0 ≤ indexC a.ls c.toNat ∧ a.ls[(indexC a.ls c.toNat).toNat]? = some x := by
  have hk : k < s.t.length := by rw [← h.len]; exact (List.getElem?_eq_some_iff.1 hx).1
  obtain ⟨c, hc⟩ := ex_get hk
  obtain ⟨h0, x', h1, h2⟩ := h.at_ k c hc
  rw [hx] at h2; cases h2
  exact ⟨c, hc, h0, h1⟩
theorem can_ev (ok : SpOK b i s a xs) {k : Nat} {x : Letter} (hx : xs[k]? = some x) (m : AV) (n : Int) (hn : 0 ≤ n) (hn2 : n < 64) : Ev Tryz.prog 152 [bp b m, I i, I k, I n] (B (givesB x.s n)) := by
  obtain ⟨c, hc, h0, h1⟩ := ok.get hx
  obtain ⟨s0, s1⟩ := ok.snd x (List.mem_of_getElem? hx)
  refine Ev.intro fn152 ?_
  refine LWp.sx (gs := []) (hs := []) rfl trivial ?_
  refine LWp.sx (gs := []) (hs := [.cells s.enc, .lin]) rfl ⟨⟨by omega, by simp [ok.hs]⟩, rfl, ⟨rfl, rfl, rfl, by decide⟩, trivial⟩ ?_
  refine LWp.ent (Ent.freezeLbox (t := 9) rfl) ?_
  refine LWp.sd (gs := []) (hs := [.cells a.enc]) hmix rfl (by kernel_rfl) ⟨⟨ok.a0, by simp [ok.ha]⟩, trivial⟩ ?_
  refine LWp.sx (gs := []) (hs := [.byte c, .ret (I (indexC a.ls c.toNat)), .cells x.enc, .ret (B (givesB x.s n))]) rfl ⟨⟨by omega, by simpa using hc⟩, index_ev a.ls c.toNat, ⟨h0, by simp [h1]⟩, gives_ev x n s0 s1 hn hn2, trivial⟩ ?_
  refine LWp.ret (retT (.inr rfl) (.one (.tmp ?_ rfl)))
  rfl
theorem silent_ev (ok : SpOK b i s a xs) {k : Nat} {x : Letter} (hx : xs[k]? = some x) (m : AV) : Ev Tryz.prog 154 [bp b m, I i, I k] (B x.q) := by
  obtain ⟨c, hc, h0, h1⟩ := ok.get hx
  refine Ev.intro fn154 ?_
  refine LWp.sx (gs := []) (hs := []) rfl trivial ?_
  refine LWp.sx (gs := []) (hs := [.cells s.enc, .lin]) rfl ⟨⟨by omega, by simp [ok.hs]⟩, rfl, ⟨rfl, rfl, rfl, by decide⟩, trivial⟩ ?_
  refine LWp.ent (Ent.freezeLbox (t := 7) rfl) ?_
  refine LWp.sd (gs := []) (hs := [.cells a.enc]) hmix rfl (by kernel_rfl) ⟨⟨ok.a0, by simp [ok.ha]⟩, trivial⟩ ?_
  refine LWp.sx (gs := []) (hs := [.byte c, .ret (I (indexC a.ls c.toNat)), .cells x.enc]) rfl ⟨⟨by omega, by simpa using hc⟩, index_ev a.ls c.toNat, ⟨h0, by simp [h1]⟩, trivial⟩ ?_
  refine LWp.ret (retT (.inr rfl) (.one (.tmp ?_ rfl)))
  rfl
end
abbrev hcs (h : List Int) : List Value := [.int .i64 h.length, .int .i64 (h.getD 0 0), .int .i64 (h.getD 1 0), .int .i64 (h.getD 2 0), .int .i64 (h.getD 3 0), .int .i64 (h.getD 4 0)]
abbrev hcells (h : List Int) : List AV := (hcs h).map .v
def hearL (n : Nat) : List Letter → List Int → List (List Int)
  | [], h => [h]
  | x :: xs, h => (if x.q = true then hearL n xs h else []) ++ ((List.range n).filter (fun (k : Nat) => givesB x.s k)).flatMap (fun (k : Nat) => hearL n xs (h ++ [(k : Int)]))
def HOK (h : List Int) : Prop := h.length ≤ 5 ∧ ∀ v ∈ h, 0 ≤ v ∧ v < 64
def nextF (b : Book) (i : Nat) (m : AV) (y : AV) (b5 : Nat) : AV := .fn (.func 153) [] [.pi [bp b m], .pi [I i], .pi [y], .po b5 0, .pi [.fn (.func 152) [bp b m] []]]
def nextH (b : Book) (i : Nat) (m : AV) (y : AV) (b5 : Nat) : Nat × HObj := (b5, .cells 196 [nextF b i m y b5])
theorem strings_ev (b : Book) (i : Nat) (m : AV) : Ev Tryz.prog 150 [bp b m, I i] (.fn (.func 151) [] [.pi [bp b m], .pi [I i]]) := by
  refine Ev.intro fn150 ?_
  refine LWp.sx (gs := []) (hs := [.ice, .ice]) rfl ⟨⟨rfl, rfl⟩, ⟨rfl, rfl⟩, trivial⟩ ?_
  refine LWp.sx (gs := []) (hs := []) rfl trivial ?_
  refine LWp.ret (retT (.inr rfl) (.one (.tmp ?_ rfl)))
  rfl
theorem hearL_len (n : Nat) : ∀ (xs : List Letter) (h g : List Int), g ∈ hearL n xs h → g.length ≤ h.length + xs.length
  | [], h, g, hg => by simp [hearL] at hg; subst hg; simp
  | x :: xs, h, g, hg => by
    simp only [hearL, List.mem_append, List.mem_flatMap] at hg
    rcases hg with hg | ⟨k, _, hg⟩
    · split at hg
      · have := hearL_len n xs h g hg; simp; omega
      · cases hg
    · have := hearL_len n xs _ g hg
      simp at this ⊢; omega
theorem hcells_put (h : List Int) (n : Int) (hl : h.length < 5) : setSeg (hcells h) (0 + 1 + ((h.length : Int).toNat) * 1) [I n] = I h.length :: (hcells (h ++ [n])).tail := by
  match h, hl with
  | [], _ => rfl
  | [_], _ => rfl
  | [_, _], _ => rfl
  | [_, _, _], _ => rfl
  | [_, _, _, _], _ => rfl
abbrev nextEnv (b : Book) (i : Nat) (m : AV) (y : Fn) (b5 k : Nat) (h : List Int) : List (Nat × AV) :=
  [(0, I k), (2, .pi [bp b m]), (3, .pi [I i]), (4, .pi [.fn y [] []]), (5, .po b5 0), (6, .pi [.fn (.func 152) [bp b m] []]), (8, .pi (hcells h))]
section
variable {X : Type} (T : X → Heap) (step : X → List Int → X) (y : Fn) (b : Book) (i : Nat) (s : Spelling) (a : Alph) (xs0 : List Letter) (m : AV)
theorem next_ev (ok : SpOK b i s a xs0) (hn0 : 0 ≤ b.n) (hn1 : b.n < 60) (hy : ∀ x h, HOK h → EvF Tryz.prog y [] [.agg (hcells h)] (T x) (fun r Ho => r = B true ∧ Ho = T (step x h))) (b5 : Nat) :
    ∀ (xs : List Letter) (k : Nat) (h : List Int) (x : X), xs0.drop k = xs → k ≤ s.t.length → h.length ≤ k → (∀ v ∈ h, 0 ≤ v ∧ v < 64) →
      EvR Tryz.prog 153 [I k, .agg (hcells h), .pi [bp b m], .pi [I i], .pi [.fn y [] []], .po b5 0, .pi [.fn (.func 152) [bp b m] []]] (nextH b i m (.fn y [] []) b5 :: T x)
        (fun r Ho => r = B true ∧ Ho = nextH b i m (.fn y [] []) b5 :: T ((hearL b.n.toNat xs h).foldl step x)) := by
  intro xs
  have ht5 := ok.t5
  induction xs with
  | nil =>
    intro k h x hd hk hh hv
    have hlt : k = s.t.length := by
      have := congrArg List.length hd
      simp [ok.len] at this; omega
    refine EvR.intro fn153 ?_
    refine LWp.sx (gs := []) (hs := [.ice]) rfl ⟨⟨rfl, rfl⟩, trivial⟩ ?_
    refine LWp.scope (LWp.seq (LWp.seq ?_))
    refine LWp.dd (gs := []) (hs := [.cells s.enc]) hmix rfl (by kernel_rfl) ⟨⟨by omega, by simp [ok.hs]⟩, trivial⟩ ?_
    refine LWp.ite rfl (fun hc => ?_) (fun hc => ?_)
    · refine LWp.seq (LWp.ops ?_)
      refine WOps.xn (gs := []) (hs := []) 2 rfl rfl trivial ?_
      refine WOps.ent (Ent.perm (List.perm_append_comm (l₁ := [nextH b i m (.fn y [] []) b5]) (l₂ := T x))) ?_
      refine WOps.cons (Op1.callvR (Hin := T x) (H0 := [nextH b i m (.fn y [] []) b5]) rfl (hy x h ⟨by omega, hv⟩) rfl rfl (SubL.refl _) rfl ?_)
      rintro res Hout ⟨rfl, rfl⟩
      refine WOps.ent (Ent.perm (List.perm_append_comm (l₁ := T (step x h)) (l₂ := [nextH b i m (.fn y [] []) b5]))) ?_
      refine WOps.xd (gs := []) (hs := []) rfl trivial ?_
      refine LWp.ret ⟨.inr rfl, _, _, _, rfl, .one (.tmp rfl rfl), ⟨rfl, ?_⟩, List.Sublist.refl _⟩
      rfl
    · exfalso
      subst hlt
      have hc : ((s.t.length : Int) == (s.t.length : Int)) = false := hc
      simp at hc
  | cons z xs ih =>
    intro k h x hd hk hh hv
    have hz : xs0[k]? = some z := by
      have := congrArg (fun l => l[0]?) hd
      simpa using this
    have hd' : xs0.drop (k + 1) = xs := by
      have := drop_cons hz
      rw [hd] at this
      exact (List.cons.inj this).2.symm
    have hkl : k < s.t.length := by rw [← ok.len]; exact (List.getElem?_eq_some_iff.1 hz).1
    refine EvR.intro fn153 ?_
    refine LWp.sx (gs := []) (hs := [.ice]) rfl ⟨⟨rfl, rfl⟩, trivial⟩ ?_
    refine LWp.scope (LWp.seq (LWp.seq ?_))
    refine LWp.dd (gs := []) (hs := [.cells s.enc]) hmix rfl (by kernel_rfl) ⟨⟨by omega, by simp [ok.hs]⟩, trivial⟩ ?_
    refine LWp.ite rfl (fun hc => ?_) (fun hc => ?_)
    · exfalso
      have hc : ((k : Int) == (s.t.length : Int)) = true := hc
      simp at hc
      omega
    refine LWp.skip ?_
    refine LWp.cutX (fun _ : Unit => True) (fun _ => el (nextEnv b i m y b5 k h)) (fun _ => nextH b i m (.fn y [] []) b5 :: T ((if z.q = true then hearL b.n.toNat xs h else []).foldl step x)) (fun _ => []) ?_ ?_
    · cases hq : z.q with
      | true =>
        refine LWp.seq (LWp.ops ?_)
        refine WOps.xn (gs := [(31, true)]) (hs := [.ret (B z.q), .at 0]) 9 rfl rfl ⟨silent_ev ok hz m, ⟨hq, rfl⟩, hq, ⟨hq, by omega⟩, hq, trivial⟩ ?_
        refine WOps.yes (by show B z.q = B true; rw [hq]) ?_
        refine Op1.callvR (Hin := nextH b i m (.fn y [] []) b5 :: T x) (H0 := []) rfl (ih (k + 1) h x hd' (by omega) (by omega) hv) rfl rfl (SubL.refl _) (by simp) ?_
        rintro res Hout ⟨rfl, rfl⟩
        refine WOps.xd (gs := [(31, true)]) (hs := []) rfl ⟨hq, hq, trivial⟩ ?_
        refine LWp.ite (b := false) rfl (fun h => by cases h) (fun _ => LWp.skip ?_)
        refine ⟨(), trivial, Ent.trans (Ent.ofH ?_) (Ent.el ⟨rfl, rfl, rfl, rfl, rfl, rfl, rfl, trivial⟩)⟩
        simp
      | false =>
        refine LWp.seq ?_
        refine LWp.x (gs := [(31, false)]) (hs := [.ret (B z.q)]) rfl ⟨silent_ev ok hz m, hq, hq, hq, hq, hq, hq, hq, trivial⟩ ?_
        refine LWp.ite (b := false) rfl (fun h => by cases h) (fun _ => LWp.skip ?_)
        refine ⟨(), trivial, Ent.trans (Ent.ofH ?_) (Ent.el ⟨rfl, rfl, rfl, rfl, rfl, rfl, rfl, trivial⟩)⟩
        simp
    intro _ _
    refine LWp.seq (LWp.label (LWp.seq (LWp.seq ?_)))
    refine LWp.x (gs := []) (hs := []) rfl trivial ?_
    generalize hx1 : (if z.q = true then hearL b.n.toNat xs h else []).foldl step x = x1
    have hgo : ∀ j : Nat, ((List.range (j + 1)).filter (fun (k : Nat) => givesB z.s k)).flatMap (fun (k : Nat) => hearL b.n.toNat xs (h ++ [(k : Int)])) =
        ((List.range j).filter (fun (k : Nat) => givesB z.s k)).flatMap (fun (k : Nat) => hearL b.n.toNat xs (h ++ [(k : Int)])) ++ (if givesB z.s j = true then hearL b.n.toNat xs (h ++ [(j : Int)]) else []) := by
      intro j
      rw [List.range_succ, List.filter_append, List.flatMap_append]
      congr 1
      cases hg : givesB z.s j <;> simp [hg]
    refine LWp.blockT (fun _ : Unit => True) (fun _ => el []) (fun _ => nextH b i m (.fn y [] []) b5 :: T ((hearL b.n.toNat (z :: xs) h).foldl step x)) (fun _ => []) ?_ ?_
    · refine LWp.loopN (fun j : Nat => j ≤ b.n.toNat) (fun j => el ((43, I b.n) :: (44, I j) :: nextEnv b i m y b5 k h))
        (fun j => nextH b i m (.fn y [] []) b5 :: T ((((List.range j).filter (fun (k : Nat) => givesB z.s k)).flatMap (fun (k : Nat) => hearL b.n.toNat xs (h ++ [(k : Int)]))).foldl step x1)) (fun _ => []) (fun j => b.n.toNat - j) 0 (by omega)
        (Ent.el ⟨rfl, rfl, rfl, rfl, rfl, rfl, rfl, rfl, rfl, trivial⟩) ?_
      intro j hj
      generalize hxj : (((List.range j).filter (fun (k : Nat) => givesB z.s k)).flatMap (fun (k : Nat) => hearL b.n.toNat xs (h ++ [(k : Int)]))).foldl step x1 = xj
      refine LWp.sx (gs := []) (hs := []) rfl trivial ?_
      refine LWp.seq (LWp.ite rfl (fun hc => ?_) (fun hc => ?_))
      · simp only [decide_eq_true_eq] at hc
        have hjl : j < b.n.toNat := by omega
        refine LWp.skip (LWp.seq (LWp.block ?_))
        refine LWp.sx (gs := []) (hs := []) rfl trivial ?_
        refine LWp.seq (LWp.seq ?_)
        refine LWp.x (gs := []) (hs := [.ret (B (givesB z.s j))]) rfl ⟨can_ev ok hz m j (by omega) (by omega), trivial⟩ ?_
        refine LWp.ite rfl (fun hb => ?_) (fun hb => ?_)
        · simp only [Bool.not_eq_true'] at hb
          refine LWp.exit ?_
          refine LWp.x (gs := []) (hs := []) rfl ⟨by omega, trivial⟩ ?_
          refine ⟨j + 1, hjl, by omega, Ent.trans (Ent.ofH ?_) (Ent.el ⟨rfl, rfl, rfl, rfl, rfl, rfl, rfl, rfl, rfl, trivial⟩)⟩
          rw [hgo, hb, ← hxj]; simp
        · simp only [Bool.not_eq_false'] at hb
          refine LWp.skip ?_
          refine LWp.sx (gs := []) (hs := [.lin]) rfl ⟨rfl, ⟨rfl, rfl, rfl, by decide⟩, trivial⟩ ?_
          refine LWp.shareB (t := 11) rfl (fun b11 => ?_)
          refine LWp.seq (LWp.ops ?_)
          refine WOps.xn (gs := []) (hs := []) 5 rfl rfl ⟨⟨by omega, by simp; omega⟩, trivial⟩ ?_
          refine WOps.cons (Op1.storeO (i := 0) rfl rfl rfl rfl rfl rfl (by show 0 + 1 + ((h.length : Int).toNat) * 1 + 1 ≤ 6; omega) ?_)
          refine WOps.ent (Ent.ofH (H' := (b11, .cells 184 (I h.length :: (hcells (h ++ [(j : Int)])).tail)) :: nextH b i m (.fn y [] []) b5 :: T xj) ?_) ?_
          · rw [← hcells_put h j (by omega)]; rfl
          refine WOps.xd (gs := []) (hs := []) rfl trivial ?_
          refine LWp.seq (LWp.ops ?_)
          refine WOps.xn (gs := []) (hs := [.at 0]) 4 rfl rfl ⟨rfl, ⟨by omega, by omega⟩, trivial⟩ ?_
          refine WOps.cons (Op1.storeO (i := 0) rfl rfl rfl rfl rfl rfl (by simp) ?_)
          refine WOps.ent (Ent.ofH (H' := (b11, .cells 184 (hcells (h ++ [(j : Int)]))) :: nextH b i m (.fn y [] []) b5 :: T xj) ?_) ?_
          · have e : (((h ++ [(j : Int)]).length : Nat) : Int) = (h.length : Int) + 1 := by simp
            show (b11, HObj.cells 184 (I ((h.length : Int) + 1) :: (hcells (h ++ [(j : Int)])).tail)) :: _ = _
            rw [← e]; rfl
          refine WOps.ent (Ent.freezeBox (i := 0) 11 rfl rfl) ?_
          refine WOps.xd (gs := []) (hs := []) rfl trivial ?_
          refine LWp.seq (LWp.ops ?_)
          refine WOps.xn (gs := []) (hs := [.at 0]) 4 rfl rfl ⟨rfl, by omega, trivial⟩ ?_
          refine WOps.cons (Op1.callvR (Hin := nextH b i m (.fn y [] []) b5 :: T xj) (H0 := []) rfl (ih (k + 1) (h ++ [(j : Int)]) xj hd' (by omega) (by simp; omega) (fun v hm => by
            rcases List.mem_append.1 hm with hm | hm
            · exact hv v hm
            · simp only [List.mem_singleton] at hm; omega)) rfl rfl (SubL.refl _) (by simp) ?_)
          rintro res Hout ⟨rfl, rfl⟩
          refine WOps.xd (gs := []) (hs := []) rfl trivial ?_
          refine LWp.ite (b := false) rfl (fun h => by cases h) (fun _ => LWp.skip ?_)
          refine LWp.x (gs := []) (hs := []) rfl ⟨by omega, trivial⟩ ?_
          refine ⟨j + 1, hjl, by omega, Ent.trans (Ent.ofH ?_) (Ent.el ⟨rfl, rfl, rfl, rfl, rfl, rfl, rfl, rfl, rfl, trivial⟩)⟩
          rw [hgo, hb, List.foldl_append, hxj]; simp
      · simp only [decide_eq_false_iff_not] at hc
        have hjn : j = b.n.toNat := by omega
        refine LWp.exit ⟨(), trivial, Ent.trans (Ent.ofH ?_) (Ent.el trivial)⟩
        subst hjn
        rw [← hxj, ← hx1, ← List.foldl_append]; rfl
    · intro _ _
      refine LWp.sx (gs := []) (hs := []) rfl trivial ?_
      refine LWp.ret ⟨.inr rfl, _, _, _, rfl, .one (.tmp rfl rfl), ⟨rfl, rfl⟩, List.Sublist.refl _⟩
theorem strings1_ev (ok : SpOK b i s a xs0) (hn0 : 0 ≤ b.n) (hn1 : b.n < 60) (hy : ∀ x h, HOK h → EvF Tryz.prog y [] [.agg (hcells h)] (T x) (fun r Ho => r = B true ∧ Ho = T (step x h))) (x : X) :
    EvR Tryz.prog 151 [.fn y [] [], .pi [bp b m], .pi [I i]] (T x) (fun _ Ho => Ho = T ((hearL b.n.toNat xs0 []).foldl step x)) := by
  refine EvR.intro fn151 ?_
  refine LWp.sx (gs := []) (hs := [.ice]) rfl ⟨⟨rfl, rfl⟩, trivial⟩ ?_
  refine LWp.sx (gs := []) (hs := [.lin]) rfl ⟨rfl, ⟨rfl, rfl, rfl, by decide⟩, trivial⟩ ?_
  refine LWp.ent (Ent.freezeLbox (t := 4) rfl) ?_
  refine LWp.seq (LWp.ops (WOps.cons (Op1.alloc rfl (fun b5 => ?_))))
  refine WOps.xd (gs := []) (hs := []) rfl trivial ?_
  refine LWp.seq (LWp.ops ?_)
  refine WOps.xn (gs := []) (hs := []) 1 rfl rfl trivial ?_
  refine WOps.cons (Op1.storeO (i := 0) rfl rfl rfl rfl rfl rfl (by decide) ?_)
  refine WOps.xd (gs := []) (hs := []) rfl trivial ?_
  refine LWp.ops ?_
  refine WOps.xn (gs := []) (hs := [.at 0]) 2 rfl rfl ⟨rfl, trivial⟩ ?_
  refine WOps.cons (Op1.callvR (Hin := nextH b i m (.fn y [] []) b5 :: T x) (H0 := []) rfl (next_ev T step y b i s a xs0 m ok hn0 hn1 hy b5 xs0 0 [] x rfl (by omega) (by simp) (by simp)) rfl rfl (SubL.refl _) (by simp only [List.append_nil]; rfl) ?_)
  rintro res Hout ⟨rfl, rfl⟩
  refine WOps.xd (gs := []) (hs := []) rfl trivial ?_
  refine ⟨.inl rfl, _, .tup [], _, rfl, .many (by decide) trivial, rfl, ?_⟩
  simp only [List.append_nil]
  exact List.sublist_cons_self _ _
end
end Go.Px

namespace Go.Px
open Go.Proofs
theorem hK : KeyOK Tryz.prog 184 (WideKey Tryz.prog 5 184) := KeyOK.wide (m := 5) (by decide) (by kernel_rfl) (by kernel_rfl) (by kernel_rfl)
theorem wideV (c0 c1 c2 c3 c4 c5 : Int) (h0 : (Lit.int .i64 c0).wf = true) (h1 : (Lit.int .i64 c1).wf = true) (h2 : (Lit.int .i64 c2).wf = true) (h3 : (Lit.int .i64 c3).wf = true) (h4 : (Lit.int .i64 c4).wf = true) (h5 : (Lit.int .i64 c5).wf = true) :
    WideKey Tryz.prog 5 184 (.agg #[.int .i64 c0, .int .i64 c1, .int .i64 c2, .int .i64 c3, .int .i64 c4, .int .i64 c5]) := by
  have e99 : Tryz.prog.cellsOf 184 = 6 := by kernel_rfl
  have e97 : Tryz.prog.cellsOf 182 = 5 := by kernel_rfl
  have e3 : Tryz.prog.cellsOf 3 = 1 := by kernel_rfl
  refine ⟨?_, [.int .i64 c0, .int .i64 c1, .int .i64 c2, .int .i64 c3, .int .i64 c4, .int .i64 c5], ?_⟩
  · simp [Value.formed, Tryz.underlying184, e99]
  · simp [Value.cells, Program.keyLits, Tryz.underlying184, Tryz.underlying182, Tryz.underlying3, e99, e97, e3, h0, h1, h2, h3, h4, h5, List.range_succ]
abbrev hval (h : List Int) : Value := .agg #[.int .i64 h.length, .int .i64 (h.getD 0 0), .int .i64 (h.getD 1 0), .int .i64 (h.getD 2 0), .int .i64 (h.getD 3 0), .int .i64 (h.getD 4 0)]
theorem wf_of {n : Int} (h0 : 0 ≤ n) (h1 : n < 64) : (Lit.int .i64 n).wf = true := by
  have e1 : IntKind.i64.min = -9223372036854775808 := rfl
  have e2 : IntKind.i64.max = 9223372036854775807 := rfl
  simp [Lit.wf]
  omega
theorem HOK.get {h : List Int} (hh : HOK h) (k : Nat) : 0 ≤ h.getD k 0 ∧ h.getD k 0 < 64 := by
  rw [List.getD_eq_getElem?_getD]
  cases he : h[k]? with
  | none => simp
  | some v => simpa using hh.2 v (List.mem_of_getElem? he)
theorem HOK.wide {h : List Int} (hh : HOK h) : WideKey Tryz.prog 5 184 (hval h) :=
  wideV _ _ _ _ _ _ (wf_of (by omega) (by have := hh.1; omega)) (wf_of (hh.get 0).1 (hh.get 0).2) (wf_of (hh.get 1).1 (hh.get 1).2) (wf_of (hh.get 2).1 (hh.get 2).2) (wf_of (hh.get 3).1 (hh.get 3).2) (wf_of (hh.get 4).1 (hh.get 4).2)
theorem hval_inj {h g : List Int} (hh : h.length ≤ 5) (e : hval h = hval g) : h = g := by
  simp only [hval, Value.agg.injEq, Array.mk.injEq, List.cons.injEq, Value.int.injEq, true_and, Int.natCast_inj, and_true] at e
  obtain ⟨e0, e1, e2, e3, e4, e5⟩ := e
  apply List.ext_getElem?
  intro k
  have key : h.getD k 0 = g.getD k 0 ∨ h.length ≤ k := by
    match k with
    | 0 => exact .inl e1
    | 1 => exact .inl e2
    | 2 => exact .inl e3
    | 3 => exact .inl e4
    | 4 => exact .inl e5
    | k + 5 => exact .inr (by omega)
  by_cases hk : k < h.length
  · rcases key with key | key
    · have hg : k < g.length := by omega
      rw [List.getD_eq_getElem?_getD, List.getD_eq_getElem?_getD, List.getElem?_eq_getElem hk, List.getElem?_eq_getElem hg] at key
      rw [List.getElem?_eq_getElem hk, List.getElem?_eq_getElem hg]
      simpa using key
    · omega
  · rw [List.getElem?_eq_none (by omega), List.getElem?_eq_none (by omega)]
abbrev Kn := List (List Int × Nat)
def kfind : Kn → List Int → Option (Nat × Nat)
  | [], _ => none
  | (g, u) :: es, h => if g = h then some (0, u) else (kfind es h).map fun p => (p.1 + 1, p.2)
def kput (es : Kn) (h : List Int) (bit : Nat) : Kn := match kfind es h with
  | none => es ++ [(h, bit)]
  | some (j, u) => es.set j (h, u ||| bit)
def encK (es : Kn) : List (Value × AV) := es.map fun e => (hval e.1, I e.2)
def KOK (es : Kn) : Prop := ∀ e ∈ es, HOK e.1 ∧ e.2 < 32
theorem kfind_spec : ∀ (es : Kn) (h : List Int), match kfind es h with
    | none => ∀ e ∈ es, e.1 ≠ h
    | some (j, u) => es[j]? = some (h, u)
  | [], h => by simp [kfind]
  | (g, u) :: es, h => by
    have ih := kfind_spec es h
    by_cases hg : g = h
    · simp [kfind, hg]
    · simp only [kfind, if_neg hg]
      cases hk : kfind es h with
      | none =>
        rw [hk] at ih
        simpa [hg] using ih
      | some p =>
        obtain ⟨j, v⟩ := p
        rw [hk] at ih
        simpa using ih
theorem kmat {es : Kn} (hk : KOK es) {h : List Int} : MAt (encK es) (hval h) ((kfind es h).map fun p => (p.1, I p.2)) := by
  have hs := kfind_spec es h
  cases hf : kfind es h with
  | none =>
    rw [hf] at hs
    refine .none ?_
    intro e he
    obtain ⟨x, hx, rfl⟩ := List.mem_map.1 he
    exact fun e => hs x hx (hval_inj (hk x hx).1.1 e)
  | some p =>
    obtain ⟨j, u⟩ := p
    rw [hf] at hs
    refine .some ?_
    show (es.map fun e => (hval e.1, I e.2))[j]? = _
    rw [List.getElem?_map, hs]; rfl
theorem kput_ok {es : Kn} (hk : KOK es) {h : List Int} (hh : HOK h) {bit : Nat} (hb : bit < 32) : KOK (kput es h bit) := by
  have hs := kfind_spec es h
  intro e he
  unfold kput at he
  cases hf : kfind es h with
  | none =>
    rw [hf] at he
    rcases List.mem_append.1 he with he | he
    · exact hk e he
    · simp only [List.mem_singleton] at he; subst he; exact ⟨hh, hb⟩
  | some p =>
    obtain ⟨j, u⟩ := p
    rw [hf] at he hs
    rcases List.mem_or_eq_of_mem_set he with he | rfl
    · exact hk e he
    · exact ⟨hh, Nat.or_lt_two_pow (n := 5) (hk _ (List.mem_of_getElem? hs)).2 hb⟩
end Go.Px

namespace Go.Px
open Go.Proofs
theorem el_nl {env : Env} : ∀ {l : List (Nat × AV)}, ElOK env l → l.all (fun p => !p.2.isLin) = true → ∀ t, el l t = .any ∨ (el l t = env t ∧ (env t).isLin = false)
  | [], _, _, t => .inl rfl
  | (u, p) :: l, h, hl, t => by
    simp only [List.all_cons, Bool.and_eq_true, Bool.not_eq_true'] at hl
    simp only [el]
    cases hb : Nat.beq t u with
    | true =>
      have := Nat.eq_of_beq_eq_true hb
      subst this
      exact .inr ⟨h.1.symm, by rw [h.1]; exact hl.1⟩
    | false => exact el_nl h.2 hl.2 t
theorem zeroI : (Tryz.prog.info? 3).bind (·.zero) = some (.int .i64 0) := by kernel_rfl
def kval (es : Kn) (h : List Int) : Nat := match kfind es h with | none => 0 | some (_, u) => u
def kat (es : Kn) (h : List Int) : Option (Nat × AV) := (kfind es h).map fun p => (p.1, I p.2)
theorem kat_val (es : Kn) (h : List Int) : lkRes false (cv (.int .i64 0)) (kat es h) = I (kval es h) := by
  unfold kat kval
  cases kfind es h <;> rfl
def kmid (es : Kn) (h : List Int) : Kn := match kfind es h with | none => es ++ [(h, 0)] | some _ => es
theorem kmid_enc (es : Kn) (h : List Int) : mput (encK es) (hval h) (I (kval es h)) (kat es h) = encK (kmid es h) := by
  unfold kat kval kmid
  have hs := kfind_spec es h
  cases hf : kfind es h with
  | none => simp [mput, encK]
  | some p =>
    obtain ⟨j, u⟩ := p
    rw [hf] at hs
    simp only [Option.map_some, mput]
    apply List.ext_getElem?
    intro n
    rw [List.getElem?_set]
    have hlt : j < (encK es).length := by
      have := (List.getElem?_eq_some_iff.1 hs).1
      simpa [encK] using this
    split
    · rename_i e; subst e
      show _ = (es.map _)[j]?
      rw [List.getElem?_map, hs]; rfl
    · rfl
def kpos (es : Kn) (h : List Int) : Nat := match kfind es h with | none => es.length | some (j, _) => j
theorem kpos_eq (es : Kn) (h : List Int) : mpos (encK es) (kat es h) = kpos es h := by
  unfold kat kpos
  cases kfind es h <;> simp [mpos, encK]
theorem kmid_at (es : Kn) (h : List Int) : (encK (kmid es h))[kpos es h]? = some (hval h, I (kval es h)) := by
  unfold kmid kpos kval
  have hs := kfind_spec es h
  cases hf : kfind es h with
  | none => simp [encK]
  | some p =>
    obtain ⟨j, u⟩ := p
    rw [hf] at hs
    show (es.map _)[j]? = _
    rw [List.getElem?_map, hs]; rfl
theorem kput_enc (es : Kn) (h : List Int) (bit : Nat) : (encK (kmid es h)).set (kpos es h) (hval h, I ((kval es h ||| bit : Nat) : Int)) = encK (kput es h bit) := by
  unfold kmid kpos kval kput
  cases hf : kfind es h with
  | none => simp [encK]
  | some p =>
    obtain ⟨j, u⟩ := p
    show (es.map _).set j _ = (es.set j _).map _
    rw [List.map_set]
theorem kmid_ok {es : Kn} (hk : KOK es) {h : List Int} (hh : HOK h) : KOK (kmid es h) := by
  unfold kmid
  cases kfind es h with
  | none =>
    intro e he
    rcases List.mem_append.1 he with he | he
    · exact hk e he
    · simp only [List.mem_singleton] at he; subst he; exact ⟨hh, by omega⟩
  | some p => exact hk
theorem KOK.ks {es : Kn} (hk : KOK es) : ∀ e ∈ encK es, WideKey Tryz.prog 5 184 e.1 := by
  intro e he
  obtain ⟨x, hx, rfl⟩ := List.mem_map.1 he
  exact (hk x hx).1.wide
theorem kval_lt {es : Kn} (hk : KOK es) (h : List Int) : kval es h < 32 := by
  have hs := kfind_spec es h
  unfold kval
  cases hf : kfind es h with
  | none => simp
  | some p =>
    obtain ⟨j, u⟩ := p
    rw [hf] at hs
    exact (hk _ (List.mem_of_getElem? hs)).2
theorem look_body (b : Book) (i : Nat) (hi : i < 5) (bm l : Nat) (es : Kn) (hk : KOK es) (h : List Int) (hh : HOK h) (Q : Post)
    (hQ : ∀ env, Q .normal env [(bm, .map (encK (kput es h (2 ^ i))))] []) (env : Env) (he : ElOK env [(3, .pi [bp b (.mo bm)]), (4, .pi [I i]), (5, .pi (hcells h))]) :
    LWp Tryz.prog (some l) 33 (.dops [(⟨some 20, none, .load 179 (tm 3) none⟩, []), (⟨some 21, none, .nilck (tm 20)⟩, [0]), (⟨some 22, none, .faddr 191 (tm 21) 1 3⟩, [1]), (⟨some 23, none, .load 189 (tm 22) none⟩, [2]),
      (⟨some 24, none, .load 184 (tm 5) (some 6)⟩, []), (⟨some 25, none, .lookup 189 (tm 23) (tm 24) false 184 3 [.int .i64 0]⟩, [3, 4]), (⟨some 26, none, .load 3 (tm 4) none⟩, []), (⟨some 27, none, .bin .shl 3 (kc 1) (tm 26)⟩, [6]),
      (⟨some 28, none, .bin .or 3 (tm 25) (tm 27)⟩, [5, 7]), (⟨some 29, none, .mapent 189 (tm 23) (tm 24) 184 3 [.int .i64 0]⟩, [3, 4, 0, 1, 2, 3, 4, 6, 7]), (⟨some 30, none, .extract (tm 29) 1⟩, [9]),
      (⟨none, none, .entst 189 (tm 23) (tm 30) (tm 28)⟩, [3, 10, 8, 9, 0, 1, 2, 3, 4, 5, 6, 7, 8, 9, 10])]) Q env [(bm, .map (encK es))] [] := by
  have hp : (2 : Int) ^ i ≤ 2305843009213693952 := pow2_le (k := i) (by omega)
  have hp0 : (0 : Int) < 2 ^ i := Int.pow_pos (by omega)
  have hkv := kval_lt hk h
  have hl0 : ∀ env0 : Env, env0 23 = .mo bm → valOf (env0 24) = some (hval h) → Q1 Tryz.prog (some l) 33 (.lookup 189 (tm 23) (tm 24) false 184 3 [.int .i64 0]) (some 25) env0 [(bm, .map (encK es))] [] [(25, I (kval es h))] := by
    intro env0 h1 h2
    exact Op1.lookupO (n := 0) hK zeroI h1 rfl h2 hh.wide hk.ks (kmat hk) ⟨by show updO _ _ (lkRes false _ (kat es h)) = _; rw [kat_val]; rfl, rfl, rfl⟩
  have hl1 : ∀ env0 : Env, env0 23 = .mo bm → valOf (env0 24) = some (hval h) → Q1 Tryz.prog (some l) 33 (.lookup 189 (tm 23) (tm 24) false 184 3 [.int .i64 0]) (some 25) env0 [(bm, .map (encK (kmid es h)))] [] [(25, I (kval es h))] := by
    intro env0 h1 h2
    exact Op1.lookupO (n := 0) hK zeroI h1 rfl h2 hh.wide (kmid_ok hk hh).ks (.some (kmid_at es h)) ⟨rfl, rfl, rfl⟩
  have hent : ∀ env0 : Env, env0 23 = .mo bm → valOf (env0 24) = some (hval h) → Q1g Tryz.prog (some l) 33 (.mapent 189 (tm 23) (tm 24) 184 3 [.int .i64 0]) (some 29) env0 [(bm, .map (encK es))] [(bm, .map (encK (kmid es h)))] [] [(29, .tup [I (kval es h), I (kpos es h)])] := by
    intro env0 h1 h2
    refine Op1.mapent (n := 0) hK zeroI h1 rfl h2 hh.wide hk.ks (kmat hk) ?_
    have e1 := kat_val es h
    unfold kat at e1
    have e2 := kpos_eq es h
    unfold kat at e2
    have e3 := kmid_enc es h
    unfold kat at e3
    rw [e1, e2, e3]
    exact ⟨rfl, rfl, rfl⟩
  refine LWp.ent (Ent.el he) ?_
  refine LWp.dopsC (q := 9) (H1 := [(bm, .map (encK (kmid es h)))]) hmix
    (.x [] (by decide) rfl rfl rfl trivial trivial <| .x [] (by decide) rfl rfl rfl trivial trivial <| .x [] (by decide) rfl rfl rfl trivial trivial <| .x [] (by decide) rfl rfl rfl trivial trivial <| .x [] (by decide) rfl rfl rfl trivial trivial <|
      .cons [25, 23, 24] true true (by decide) (fun _ => hl0 _ rfl rfl) (fun _ => hl1 _ rfl rfl) rfl rfl <|
      .x [] (by decide) rfl rfl rfl trivial trivial <| .x [] (by decide) rfl rfl rfl ⟨by omega, by omega, by omega, by show (1 : Int) * 2 ^ i < _; omega⟩ ⟨by omega, by omega, by omega, by show (1 : Int) * 2 ^ i < _; omega⟩ <|
      .x [] (by decide) rfl rfl rfl ⟨⟨by omega, by omega⟩, by show 0 ≤ (1 : Int) * 2 ^ i; omega, by show (1 : Int) * 2 ^ i < _; omega⟩ ⟨⟨by omega, by omega⟩, by show 0 ≤ (1 : Int) * 2 ^ i; omega, by show (1 : Int) * 2 ^ i < _; omega⟩ <|
      .chg [29, 23, 24] rfl ⟨rfl, rfl, hent _ rfl rfl⟩ rfl rfl <| .x [] (by decide) rfl rfl rfl trivial trivial <| .nil) (by kernel_rfl) ?_
  refine WOps.cons (Op1.entst (n := 0) rfl rfl rfl (kmid_at es h) rfl rfl ?_)
  refine WOps.nil ?_
  have e1 : ((1 : Int) * 2 ^ ((i : Nat) : Int).toNat).toNat = 2 ^ i := by
    have : (1 : Int) * 2 ^ ((i : Nat) : Int).toNat = ((2 ^ i : Nat) : Int) := by simp
    rw [this]; rfl
  have e2 : (encK (kmid es h)).set (kpos es h) (hval h, I ((kval es h ||| ((1 : Int) * 2 ^ ((i : Nat) : Int).toNat).toNat : Nat) : Int)) = encK (kput es h (2 ^ i)) := by
    rw [e1]; exact kput_enc es h (2 ^ i)
  have e3 := hQ
  rw [← e2] at e3
  exact e3 _
end Go.Px

namespace Go.Px
open Go.Proofs
def knownF (n : Nat) : List (List Letter) → Nat → Kn → Kn
  | [], _, es => es
  | xs :: sps, i, es => knownF n sps (i + 1) ((hearL n xs []).foldl (fun es h => kput es h (2 ^ i)) es)
structure BookOK (b : Book) (sps : List (List Letter)) : Prop where
  n0 : 0 ≤ b.n
  n1 : b.n < 60
  len : sps.length = b.ss.length
  five : sps.length ≤ 5
  sp : ∀ (i : Nat) xs, sps[i]? = some xs → ∃ s a, SpOK b i s a xs
theorem hearL_HOK {n : Nat} (hn : n ≤ 64) : ∀ (xs : List Letter) (h g : List Int), g ∈ hearL n xs h → (∀ v ∈ h, 0 ≤ v ∧ v < 64) → ∀ v ∈ g, 0 ≤ v ∧ v < 64
  | [], h, g, hg, hh => by simp [hearL] at hg; subst hg; exact hh
  | x :: xs, h, g, hg, hh => by
    simp only [hearL, List.mem_append, List.mem_flatMap] at hg
    rcases hg with hg | ⟨k, hk, hg⟩
    · split at hg
      · exact hearL_HOK hn xs h g hg hh
      · cases hg
    · refine hearL_HOK hn xs _ g hg ?_
      intro v hv
      rcases List.mem_append.1 hv with hv | hv
      · exact hh v hv
      · simp only [List.mem_singleton] at hv
        have := List.mem_range.1 (List.mem_filter.1 hk).1
        omega
abbrev KX := { es : Kn // KOK es }
open Classical in
noncomputable def stepX (i : Nat) (hi : i < 5) (x : KX) (h : List Int) : KX := if hh : HOK h then ⟨kput x.1 h (2 ^ i), kput_ok x.2 hh (by
  have : 2 ^ i ≤ 2 ^ 4 := Nat.pow_le_pow_right (by omega) (by omega)
  omega)⟩ else x
theorem stepX_val {i : Nat} {hi : i < 5} {x : KX} {h : List Int} (hh : HOK h) : (stepX i hi x h).1 = kput x.1 h (2 ^ i) := by
  unfold stepX
  rw [dif_pos hh]
theorem foldX {i : Nat} {hi : i < 5} : ∀ (l : List (List Int)) (x : KX), (∀ h ∈ l, HOK h) → (l.foldl (stepX i hi) x).1 = l.foldl (fun es h => kput es h (2 ^ i)) x.1
  | [], x, _ => rfl
  | h :: l, x, hl => by
    simp only [List.foldl_cons]
    rw [foldX l _ (fun g hg => hl g (by simp [hg])), stepX_val (hl h (by simp))]
theorem look_ev (b : Book) (sps : List (List Letter)) (ok : BookOK b sps) : Ev Tryz.prog 148 [.agg b.enc] (bp b (.mi (encK (knownF b.n.toNat sps 0 [])))) := by
  have h5 := ok.five
  have hlen := ok.len
  have hn0 := ok.n0
  have hn1 := ok.n1
  refine Ev.intro fn148 ?_
  refine LWp.sx (gs := []) (hs := [.ice]) rfl ⟨⟨rfl, rfl⟩, trivial⟩ ?_
  refine LWp.seq (LWp.ops ?_)
  refine WOps.xn (gs := []) (hs := []) 1 rfl rfl trivial ?_
  refine WOps.cons (Op1.mmap (fun bm => ?_))
  refine WOps.xd (gs := []) (hs := [.ice, .lin]) rfl ⟨⟨rfl, rfl⟩, rfl, ⟨rfl, rfl, rfl, by decide⟩, trivial⟩ ?_
  refine LWp.ent (Ent.freezeLbox (t := 3) rfl) ?_
  refine LWp.seq (LWp.seq ?_)
  refine LWp.x (gs := []) (hs := []) rfl trivial ?_
  refine LWp.blockT (fun _ : List Nat => True) (fun _ => el [(3, .pi [bp b (.mo bm)])]) (fun ds => (bm, .map (encK (knownF b.n.toNat sps 0 []))) :: ds.map fun d => (d, HObj.dfr)) (fun ds => ds) ?_ ?_
  · refine LWp.loopN (X := Nat × Kn × List Nat) (fun x => x.1 ≤ sps.length ∧ KOK x.2.1 ∧ knownF b.n.toNat sps 0 [] = knownF b.n.toNat (sps.drop x.1) x.1 x.2.1)
      (fun x => el [(3, .pi [bp b (.mo bm)]), (12, I sps.length), (13, I x.1)]) (fun x => (bm, .map (encK x.2.1)) :: x.2.2.map fun d => (d, HObj.dfr)) (fun x => x.2.2) (fun x => sps.length - x.1) (0, [], []) ⟨by simp, (by intro e he; cases he), rfl⟩
      (Ent.el ⟨rfl, by show I _ = I _; simp [hlen], rfl, trivial⟩) ?_
    rintro ⟨i, es, ds⟩ ⟨hi, hk, hes⟩
    simp only at hi hk hes ⊢
    refine LWp.sx (gs := []) (hs := []) rfl trivial ?_
    refine LWp.seq (LWp.ite rfl (fun hc => ?_) (fun hc => ?_))
    · simp only [decide_eq_true_eq, Int.ofNat_lt] at hc
      obtain ⟨xs, hx⟩ := ex_get hc
      obtain ⟨s, a, hsp⟩ := ok.sp i xs hx
      have hi5 : i < 5 := by omega
      rw [drop_cons hx, knownF] at hes
      have hall : ∀ h ∈ hearL b.n.toNat xs [], HOK h := fun h hh => ⟨by
        have := hearL_len _ xs [] h hh
        have h1 := hsp.len
        have h2 := hsp.t5
        simp at this; omega, hearL_HOK (by omega) xs [] h hh (by simp)⟩
      refine LWp.skip (LWp.seq (LWp.block ?_))
      refine LWp.sx (gs := []) (hs := [.lin]) rfl ⟨rfl, ⟨rfl, rfl, rfl, by decide⟩, trivial⟩ ?_
      refine LWp.ent (Ent.freezeLbox (t := 4) rfl) ?_
      refine LWp.sx (gs := []) (hs := [.ret (.fn (.func 151) [] [.pi [bp b (.mo bm)], .pi [I i]])]) rfl ⟨strings_ev b i (.mo bm), trivial⟩ ?_
      refine LWp.block ?_
      refine LWp.rfun (X := KX) (HS := fun x => [(bm, .map (encK x.1))]) (H0 := ds.map fun d => (d, HObj.dfr)) ⟨es, hk⟩ (fun x' => x'.1 = (hearL b.n.toNat xs []).foldl (fun es h => kput es h (2 ^ i)) es)
        (fun x args x' => ∃ h, HOK h ∧ args = [.agg (hcells h)] ∧ x'.1 = kput x.1 h (2 ^ i)) (el [(3, .pi [bp b (.mo bm)]), (4, .pi [I i])]) rfl rfl (el_nl ⟨rfl, rfl, trivial⟩ rfl) (by simp) ?_ ?_ ?_
      · rintro l x args x' ⟨h, hh, rfl, hx'⟩
        refine ⟨rfl, ?_⟩
        refine LWp.x (gs := []) (hs := [.lin]) rfl ⟨rfl, ⟨rfl, rfl, rfl, by decide⟩, trivial⟩ ?_
        refine ⟨rfl, LWp.ent (Ent.freezeLbox (t := 5) rfl) (LWp.block ?_)⟩
        refine look_body b i hi5 bm l x.1 x.2 h hh _ ?_ _ ⟨rfl, rfl, rfl, trivial⟩
        intro env'
        refine ⟨rfl, ?_⟩
        rw [hx']
        exact List.Sublist.refl _
      · intro l lo hy
        refine (strings1_ev (fun x : KX => (l, lo) :: [(bm, .map (encK x.1))]) (stepX i hi5) (.yield l) b i s a xs (.mo bm) hsp hn0 hn1 ?_ ⟨es, hk⟩).mono ?_
        · intro x h hh
          exact ⟨rfl, hy x _ _ ⟨h, hh, rfl, stepX_val hh⟩⟩
        · intro r Ho hHo
          exact ⟨_, foldX _ _ hall, hHo⟩
      · intro x' rD hfin
        refine LWp.ent (Ent.perm (List.Perm.swap _ _ _)) ?_
        refine LWp.x (gs := []) (hs := []) rfl ⟨by omega, trivial⟩ ?_
        refine ⟨(i + 1, x'.1, rD :: ds), ⟨hc, x'.2, ?_⟩, by simp only; omega, Ent.el ⟨rfl, rfl, rfl, trivial⟩⟩
        rw [hes, hfin]
    · simp only [decide_eq_false_iff_not, Int.ofNat_lt] at hc
      refine LWp.exit ⟨ds, trivial, Ent.trans (Ent.ofH ?_) (Ent.el ⟨rfl, trivial⟩)⟩
      rw [hes, drop_nil hc]; rfl
  · intro ds _
    refine LWp.sx (gs := []) (hs := []) rfl trivial ?_
    refine LWp.ent (Ent.freezeMap (t := 2) (i := 0) rfl rfl) ?_
    have hD : ∀ ds : List Nat, DropD (ds.map fun d => (d, HObj.dfr)) ds [] := by
      intro ds
      induction ds with
      | nil => rfl
      | cons d ds ih => exact ⟨0, rfl, by simpa using ih⟩
    refine LWp.ret ⟨.inr rfl, [], hD ds, .one (.tmp ?_ rfl)⟩
    show AV.pi _ = AV.pi _
    simp [subM]
end Go.Px

namespace Go.Px
open Go.Proofs
theorem isNaN_ev (n : Int) : Ev Tryz.prog 143 [I n] (B false) := by
  refine Ev.intro fn143 ?_
  refine LWp.sx (gs := []) (hs := []) rfl trivial ?_
  refine LWp.sx (gs := []) (hs := []) rfl trivial ?_
  refine LWp.ret (retT (.inr rfl) (.one (.tmp ?_ rfl)))
  show B _ = B _
  simp
def cmpI (a b : Int) : Int := if a < b then -1 else if a > b then 1 else 0
theorem cmp_ev (a b : Int) : Ev Tryz.prog 116 [I a, I b] (I (cmpI a b)) := by
  refine Ev.intro fn116 ?_
  refine LWp.sx (gs := []) (hs := []) rfl trivial ?_
  refine LWp.sx (gs := []) (hs := [.ret (B false)]) rfl ⟨isNaN_ev a, trivial⟩ ?_
  refine LWp.sx (gs := []) (hs := [.ret (B false)]) rfl ⟨isNaN_ev b, trivial⟩ ?_
  refine LWp.seq (LWp.seq ?_)
  refine LWp.x (gs := []) (hs := []) rfl trivial ?_
  refine LWp.ite (b := false) rfl (fun h => by cases h) (fun _ => LWp.skip (LWp.seq (LWp.seq ?_)))
  refine LWp.x (gs := []) (hs := []) rfl trivial ?_
  refine LWp.ite (b := false) rfl (fun h => by cases h) (fun _ => LWp.skip (LWp.seq (LWp.seq ?_)))
  refine LWp.x (gs := []) (hs := []) rfl trivial ?_
  refine LWp.ite rfl (fun h => ?_) (fun h => ?_)
  · simp only [decide_eq_true_eq] at h
    refine LWp.sx (gs := []) (hs := []) rfl trivial ?_
    refine LWp.ret (retT (.inr rfl) (.one (.tmp ?_ rfl)))
    show I _ = I _
    simp [cmpI, h]
  simp only [decide_eq_false_iff_not] at h
  refine LWp.skip (LWp.seq (LWp.seq ?_))
  refine LWp.x (gs := []) (hs := []) rfl trivial ?_
  refine LWp.ite rfl (fun g => ?_) (fun g => ?_)
  · simp only [decide_eq_true_eq] at g
    refine LWp.sx (gs := []) (hs := []) rfl trivial ?_
    refine LWp.ret (retT (.inr rfl) (.one (.tmp ?_ rfl)))
    show I _ = I _
    simp [cmpI, h, g]
  simp only [decide_eq_false_iff_not] at g
  refine LWp.skip ?_
  refine LWp.sx (gs := []) (hs := []) rfl trivial ?_
  refine LWp.ret (retT (.inr rfl) (.one (.tmp ?_ rfl)))
  show I _ = I _
  simp [cmpI, h, g]
def cmpL : List Int → List Int → Int
  | [], [] => 0
  | [], _ :: _ => -1
  | _ :: _, [] => 1
  | a :: x, b :: y => if a = b then cmpL x y else if a < b then -1 else 1
theorem cmpL_lt : ∀ (a b : List Int), cmpL a b < 0 ↔ lessL a b = true
  | [], [] => by simp [cmpL, lessL]
  | [], _ :: _ => by simp [cmpL, lessL]
  | _ :: _, [] => by simp [cmpL, lessL]
  | a :: x, b :: y => by
    simp only [cmpL, lessL]
    by_cases h : a = b
    · simp only [h, if_true]; exact cmpL_lt x y
    · simp only [h, if_false]
      by_cases g : a < b <;> simp [g]
theorem compare_ev (a b : List Int) : Ev Tryz.prog 80 [ints a, ints b] (I (cmpL a b)) := by
  refine Ev.intro fn80 ?_
  refine LWp.slLen 0 rfl fun ha => ?_
  simp only [List.length_map] at ha
  refine LWp.sx (gs := []) (hs := []) rfl trivial ?_
  refine LWp.seq (LWp.seq ?_)
  refine LWp.x (gs := []) (hs := []) rfl trivial ?_
  refine LWp.blockT (fun _ : Unit => cmpL a b = cmpL [] (b.drop a.length) ∧ a.length ≤ b.length) (fun _ => el [(0, ints a), (1, ints b)]) (fun _ => []) (fun _ => []) ?_ ?_
  · refine LWp.loopN (fun k : Nat => k ≤ a.length ∧ k ≤ b.length ∧ cmpL a b = cmpL (a.drop k) (b.drop k)) (fun k => el [(0, ints a), (1, ints b), (9, ints a), (10, I a.length), (11, I k)]) (fun _ => []) (fun _ => []) (fun k => a.length - k) 0 ⟨by omega, by omega, rfl⟩
      (Ent.el ⟨rfl, rfl, rfl, by show I _ = I _; simp, rfl, trivial⟩) ?_
    rintro k ⟨h1, h2, h3⟩
    refine LWp.sx (gs := []) (hs := []) rfl trivial ?_
    refine LWp.seq (LWp.ite rfl (fun hc => ?_) (fun hc => ?_))
    · simp only [decide_eq_true_eq, Int.ofNat_lt] at hc
      obtain ⟨x, hx⟩ := ex_get hc
      refine LWp.skip (LWp.seq (LWp.block ?_))
      refine LWp.sx (gs := []) (hs := [.cells [I x]]) rfl ⟨⟨by omega, by simp [hx]⟩, trivial⟩ ?_
      refine LWp.seq (LWp.seq ?_)
      refine LWp.x (gs := []) (hs := []) rfl trivial ?_
      refine LWp.ite rfl (fun hb => ?_) (fun hb => ?_)
      · simp only [List.length_map, ge_iff_le, decide_eq_true_eq, Int.ofNat_le] at hb
        refine LWp.sx (gs := []) (hs := []) rfl trivial ?_
        refine LWp.ret (retT (.inr rfl) (.one (.tmp ?_ rfl)))
        show I _ = I _
        rw [h3, drop_cons hx, drop_nil (l := b) (by omega)]; rfl
      · simp only [List.length_map, ge_iff_le, decide_eq_false_iff_not, Int.ofNat_le] at hb
        have hb' : k < b.length := by omega
        obtain ⟨y, hy⟩ := ex_get hb'
        rw [drop_cons hx, drop_cons hy, cmpL] at h3
        refine LWp.skip ?_
        refine LWp.sx (gs := []) (hs := [.cells [I y]]) rfl ⟨⟨by omega, by simp [hy]⟩, trivial⟩ ?_
        refine LWp.sx (gs := []) (hs := [.ret (I (cmpI x y))]) rfl ⟨cmp_ev x y, trivial⟩ ?_
        refine LWp.seq ?_
        refine LWp.x (gs := []) (hs := []) rfl trivial ?_
        refine LWp.ite rfl (fun hd => ?_) (fun hd => ?_)
        · simp only [bne_iff_ne, ne_eq] at hd
          refine LWp.sx (gs := []) (hs := []) rfl trivial ?_
          refine LWp.ret (retT (.inr rfl) (.one (.tmp ?_ rfl)))
          show I _ = I _
          rw [h3]
          unfold cmpI at hd ⊢
          by_cases e : x = y
          · subst e; simp at hd
          · rw [if_neg e]
            by_cases g : x < y
            · simp [g]
            · have : x > y := by omega
              simp [g, this]
        · simp only [bne_eq_false_iff_eq] at hd
          have e : x = y := by
            unfold cmpI at hd
            by_cases g : x < y
            · simp [g] at hd
            · by_cases g' : x > y
              · simp [g, g'] at hd
              · omega
          rw [if_pos e] at h3
          refine LWp.skip ?_
          refine LWp.x (gs := []) (hs := []) rfl ⟨by omega, trivial⟩ ?_
          exact ⟨k + 1, ⟨hc, hb', h3⟩, by omega, Ent.el ⟨rfl, rfl, rfl, rfl, rfl, trivial⟩⟩
    · simp only [decide_eq_false_iff_not, Int.ofNat_lt] at hc
      have : k = a.length := by omega
      subst this
      exact LWp.exit ⟨(), ⟨by rw [h3]; simp, h2⟩, Ent.el ⟨rfl, rfl, trivial⟩⟩
  · rintro _ ⟨h3, h2⟩
    refine LWp.seq (LWp.seq ?_)
    refine LWp.x (gs := []) (hs := []) rfl trivial ?_
    refine LWp.ite rfl (fun hb => ?_) (fun hb => ?_)
    · simp only [List.length_map, decide_eq_true_eq, Int.ofNat_lt] at hb
      obtain ⟨y, hy⟩ := ex_get hb
      refine LWp.sx (gs := []) (hs := []) rfl trivial ?_
      refine LWp.ret (retT (.inr rfl) (.one (.tmp ?_ rfl)))
      show I _ = I _
      rw [h3, drop_cons hy]; rfl
    · simp only [List.length_map, decide_eq_false_iff_not, Int.ofNat_lt] at hb
      refine LWp.skip ?_
      refine LWp.sx (gs := []) (hs := []) rfl trivial ?_
      refine LWp.ret (retT (.inr rfl) (.one (.tmp ?_ rfl)))
      show I _ = I _
      rw [h3, drop_nil hb]; rfl
def numsF (set : Int) (n : Nat) : List Int := (((List.range n).filter fun (k : Nat) => givesB set k)).map fun (k : Nat) => (k : Int)
theorem numsF_succ (set : Int) (n : Nat) : numsF set (n + 1) = numsF set n ++ (if givesB set n = true then [(n : Int)] else []) := by
  unfold numsF
  rw [List.range_succ, List.filter_append, List.map_append]
  congr 1
  cases hg : givesB set n <;> simp [hg]
theorem numsF_len (set : Int) (n : Nat) : (numsF set n).length ≤ n := by
  unfold numsF
  rw [List.length_map]
  exact Nat.le_trans (List.length_filter_le _ _) (by simp)
end Go.Px

namespace Go.Px
open Go.Proofs
def pad (h : List Int) : List Int := [h.getD 0 0, h.getD 1 0, h.getD 2 0, h.getD 3 0, h.getD 4 0]
theorem wideV5 (c1 c2 c3 c4 c5 : Int) (h1 : (Lit.int .i64 c1).wf = true) (h2 : (Lit.int .i64 c2).wf = true) (h3 : (Lit.int .i64 c3).wf = true) (h4 : (Lit.int .i64 c4).wf = true) (h5 : (Lit.int .i64 c5).wf = true) :
    WideKey Tryz.prog 5 182 (.agg #[.int .i64 c1, .int .i64 c2, .int .i64 c3, .int .i64 c4, .int .i64 c5]) := by
  have e97 : Tryz.prog.cellsOf 182 = 5 := by kernel_rfl
  have e3 : Tryz.prog.cellsOf 3 = 1 := by kernel_rfl
  refine ⟨?_, [.int .i64 c1, .int .i64 c2, .int .i64 c3, .int .i64 c4, .int .i64 c5], ?_⟩
  · simp [Value.formed, Tryz.underlying182, e97]
  · simp [Value.cells, Program.keyLits, Tryz.underlying182, Tryz.underlying3, e97, e3, h1, h2, h3, h4, h5, List.range_succ]
theorem HOK.wide5 {h : List Int} (hh : HOK h) : WideKey Tryz.prog 5 182 (.agg #[.int .i64 (h.getD 0 0), .int .i64 (h.getD 1 0), .int .i64 (h.getD 2 0), .int .i64 (h.getD 3 0), .int .i64 (h.getD 4 0)]) :=
  wideV5 _ _ _ _ _ (wf_of (hh.get 0).1 (hh.get 0).2) (wf_of (hh.get 1).1 (hh.get 1).2) (wf_of (hh.get 2).1 (hh.get 2).2) (wf_of (hh.get 3).1 (hh.get 3).2) (wf_of (hh.get 4).1 (hh.get 4).2)
def hbefore (h g : List Int) : Bool := if pad h = pad g ∨ h.length ≠ g.length then decide (h.length < g.length) else decide (cmpL (pad h) (pad g) < 0)
theorem before_ev (h g : List Int) (hh : HOK h) (hg : HOK g) : Ev Tryz.prog 149 [.agg (hcells h), .agg (hcells g)] (B (hbefore h g)) := by
  refine Ev.intro fn149 ?_
  refine LWp.sx (gs := []) (hs := [.ice, .ice]) rfl ⟨⟨rfl, rfl⟩, ⟨rfl, rfl⟩, trivial⟩ ?_
  have fin : ∀ env : Env, ElOK env [(2, .pi (hcells h)), (3, .pi (hcells g))] → pad h = pad g ∨ h.length ≠ g.length →
      LWp Tryz.prog none 28 (.seq (.ops [⟨some 17, none, .faddr 184 (tm 2) 0 0⟩, ⟨some 18, none, .load 3 (tm 17) none⟩, ⟨some 19, none, .faddr 184 (tm 3) 0 0⟩, ⟨some 20, none, .load 3 (tm 19) none⟩, ⟨some 21, none, .bin .lss 3 (tm 18) (tm 20)⟩, ⟨some 4, none, .mov (tm 21)⟩]) .ret)
        (fun e env H D => e = .ret ∧ retP Tryz.prog [.tmp 4] (B (hbefore h g)) .ret env H D) env [] [] := by
    intro env he hp
    refine LWp.ent (Ent.el he) ?_
    refine LWp.sx (gs := []) (hs := []) rfl trivial ?_
    refine LWp.ret ⟨rfl, retT (.inr rfl) (.one (.tmp ?_ rfl))⟩
    show B _ = B _
    simp [hbefore, hp]
  have heq : ∀ env : Env, evO env (tm 6) = .agg ((hcells h).drop 1) → evO env (tm 8) = .agg ((hcells g).drop 1) → ∀ K : Env → Heap → List Nat → Prop, K (updO env (some 9) (B (decide (pad h = pad g)))) [] [] → Op1 Tryz.prog none 28 (.eqT false 182 (tm 6) (tm 8)) (some 9) env [] [] K := by
    intro env h6 h8 K k
    refine Op1.eqT (m := 5) (DD := 5) (by decide) (by kernel_rfl) (by kernel_rfl) (by kernel_rfl) (by kernel_rfl) (by rw [h6]; rfl) (by rw [h8]; rfl) hh.wide5 hg.wide5 (decide (pad h = pad g)) ?_ k
    simp [pad]
  refine LWp.seq (LWp.seq (LWp.ops ?_))
  refine WOps.xn (gs := []) (hs := []) 4 rfl rfl trivial ?_
  refine WOps.cons (heq _ rfl rfl _ ?_)
  by_cases hp : pad h = pad g
  · refine WOps.xd (gs := [(10, true)]) (hs := []) rfl (by simp [hp]) ?_
    refine LWp.ite (b := true) rfl (fun _ => ?_) (fun h => by cases h)
    refine LWp.mono (fin _ ?_ (.inl hp)) (by rintro e env H D ⟨rfl, h⟩; exact h)
    exact ⟨rfl, rfl, trivial⟩
  · refine WOps.xd (gs := [(10, false)]) (hs := []) rfl (by simp [hp]) ?_
    refine LWp.ite rfl (fun hb => ?_) (fun hb => ?_)
    · simp only [bne_iff_ne, ne_eq, Int.natCast_inj] at hb
      refine LWp.mono (fin _ ?_ (.inr hb)) (by rintro e env H D ⟨rfl, h⟩; exact h)
      exact ⟨rfl, rfl, trivial⟩
    · simp only [bne_eq_false_iff_eq, Int.natCast_inj] at hb
      refine LWp.skip ?_
      refine LWp.sd (gs := []) (hs := [.ret (I (cmpL (pad h) (pad g)))]) hmix rfl (by kernel_rfl) ⟨⟨⟨trivial, trivial⟩, ⟨Nat.le_refl 5, by decide⟩, by decide, by decide⟩, ⟨⟨trivial, trivial⟩, ⟨Nat.le_refl 5, by decide⟩, by decide, by decide⟩, compare_ev (pad h) (pad g), trivial⟩ ?_
      refine LWp.ret (retT (.inr rfl) (.one (.tmp ?_ rfl)))
      show B _ = B _
      simp [hbefore, hp, hb]
end Go.Px

namespace Go.Px
open Go.Proofs
theorem list_pad (h : List Int) (hl : h.length ≤ 5) : ((pad h).map fun x => [I x]).take (min 5 h.length) ++ (List.replicate h.length [I 0]).drop (min 5 h.length) = h.map fun x => [I x] := by
  match h, hl with
  | [], _ => rfl
  | [_], _ => rfl
  | [_, _], _ => rfl
  | [_, _, _], _ => rfl
  | [_, _, _, _], _ => rfl
  | [_, _, _, _, _], _ => rfl
theorem list_ev (h : List Int) (hl : h.length ≤ 5) : Ev Tryz.prog 147 [.agg (hcells h)] (ints h) := by
  refine Ev.intro fn147 ?_
  refine LWp.sx (gs := []) (hs := [.ice]) rfl ⟨⟨rfl, rfl⟩, trivial⟩ ?_
  refine LWp.seq (LWp.ops ?_)
  refine WOps.xn (gs := []) (hs := []) 2 rfl rfl trivial ?_
  refine WOps.cons (Op1.mslice h.length rfl rfl rfl rfl (by omega) (by omega) rfl (fun b => ?_))
  refine WOps.xd (gs := []) (hs := []) rfl trivial ?_
  refine LWp.seq (LWp.ops ?_)
  refine WOps.xn (gs := []) (hs := []) 3 rfl rfl ⟨⟨⟨trivial, trivial⟩, ⟨Nat.le_refl 5, by decide⟩, by decide, by decide⟩, trivial⟩ ?_
  refine WOps.cons (Op1.copyA (i := 0) (ys := (pad h).map fun x => [I x]) rfl rfl rfl ?_)
  refine WOps.xd (gs := []) (hs := []) rfl trivial ?_
  refine LWp.ent (Ent.ofH (H' := [(b, .arr 3 1 h.length (h.map fun x => [I x]))]) ?_) ?_
  · have := list_pad h hl
    simp only [List.length_replicate, List.length_map] at this ⊢
    show [(b, HObj.arr 3 1 h.length _)] = _
    congr 3
  refine LWp.sx (gs := []) (hs := []) rfl trivial ?_
  refine LWp.ent (Ent.freezeArr (t := 2) (i := 0) (es := h.map fun x => [I x]) (b := b) (cap := h.length) (kk := 1) (T := 3) ?_ rfl) ?_
  · show AV.so _ _ _ = AV.so _ _ _
    simp
  refine LWp.ret ⟨.inr rfl, [], rfl, .one (.tmp rfl rfl)⟩
end Go.Px

