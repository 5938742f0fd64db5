/- Part 2 of the proof of the statement PersonTrue (contracts of the functions that it alone wants). No conditions. -/
import Derived.Test.YtcioapljmakidaaGreatBTrue1
import Derived.Test.YtcioapljmakidaaGreatChecked
import Derived.KernelRfl
namespace Go.Px
open Go.Proofs
set_option maxRecDepth 100000
def L7 : LCode :=
 (.seq
 (.ops [ow 3 (.box 29 (tm 0)), ow 6 (.mov (.const (.bool false)))])
 (.seq
 (.seq
 (.ops [ow 23 (.load 29 (tm 3) (some 6)), ow 24 (.call 33 [(tm 23)] 4), ow 25 (.un .not (tm 24))])
 (.ite (tm 25)
 (.seq
 (.ops [ow 27 (.load 29 (tm 3) (some 6)), ow 28 (.call 17 [(tm 27)] 35), om 26 28, ow 29 (.extract (tm 26) 0), ow 30 (.extract (tm 26) 1), ow 31 (.extract (tm 26) 2), om 7 29, om 8 30, om 9 31])
 (.seq
 (.ops [om 32 9, ow 33 (.bin .neq 31 (tm 32) (kc 0)), om 34 33, oy 35 34 (.call 22 [] 4), ow 36 (.pick (tm 34) (tm 35) (.const (.bool false))), om 6 36]) .ret)) .skip))
 (.seq
 (.ops [ow 37 (.load 29 (tm 3) (some 6)), om 38 1, ow 39 (.call 34 [(tm 37), (tm 38)] 34), om 10 39])
 (.seq
 (.ops [ow 40 (.load 29 (tm 3) (some 6)), om 41 10, om 42 2, ow 43 (.call 35 [(tm 40), (tm 41), (tm 42)] 29), ow 11 (.alloc 29 [(.int .i64 0), (.slice none 0 0), (.slice none 0 0), (.int .i64 0), (.slice none 0 0), (.slice none 0 0)]), ⟨none, none, .store 29 (tm 11) (tm 43) 6⟩])
 (.seq
 (.ops [ow 45 (.load 29 (tm 11) (some 6)), ow 46 (.call 23 [(tm 45)] 44), om 44 46, ow 47 (.extract (tm 44) 0), ow 48 (.extract (tm 44) 1), ow 12 (.alloc 43 [(.int .i64 0), (.int .i64 0)]), ⟨none, none, .store 43 (tm 12) (tm 47) 2⟩, om 13 48])
 (.seq
 (.ops [ow 50 (.load 29 (tm 11) (some 6)), ow 51 (.call 31 [(tm 50)] 50), om 49 51, ow 52 (.extract (tm 49) 0), ow 53 (.extract (tm 49) 1), om 14 52, om 15 53])
 (.seq
 (.seq
 (.dops [(om 54 13, []), (ow 55 (.bin .neq 31 (tm 54) (kc 0)), [0]), (om 56 55, [1]), (oz 57 56 (.mov (tm 15)), [2]), (oz 58 56 (.bin .neq 31 (tm 57) (kc 0)), [3, 2]), (ow 59 (.pick (tm 56) (.const (.bool true)) (tm 58)), [2, 4]), (om 60 59, [5, 2]), (oz 61 60 (.mov (tm 14)), [6]), (oz 62 60 (.len false 34 3 (tm 61)), [7, 6]), (oz 63 60 (.bin .gtr 3 (tm 62) (kc 0)), [8, 6]), (ow 64 (.pick (tm 60) (.const (.bool true)) (tm 63)), [6, 9]), (om 65 64, [10, 6]), (oz 66 65 (.mov (tm 10)), [11]), (oz 67 65 (.call 37 [(tm 66)] 3), [12, 11, 11]), (oz 68 65 (.load 43 (tm 12) (some 2)), [11]), (oz 69 65 (.call 36 [(tm 67), (tm 68)] 4), [13, 14, 13, 11]), (oz 70 65 (.un .not (tm 69)), [15, 11]), (ow 71 (.pick (tm 65) (.const (.bool true)) (tm 70)), [11, 16])])
 (.ite (tm 71)
 (.seq
 (.ops [ow 6 (.mov (.const (.bool false)))]) .ret) .skip))
 (.seq
 (.seq
 (.ops [ow 16 (.mov (kc 0))])
 (.block 0
 (.loop
 (.seq
 (.seq
 (.ops [om 72 16, om 73 10, ow 74 (.len false 34 3 (tm 73)), ow 75 (.bin .lss 3 (tm 72) (tm 74))])
 (.ite (tm 75) .skip
 (.exit 0)))
 (.seq
 (.block 1
 (.seq
 (.ops [ow 79 (.load 29 (tm 11) (some 6)), om 80 16, ow 81 (.call 25 [(tm 79), (tm 80)] 44), om 78 81, ow 82 (.extract (tm 78) 0), ow 83 (.extract (tm 78) 1), ow 17 (.alloc 43 [(.int .i64 0), (.int .i64 0)]), ⟨none, none, .store 43 (tm 17) (tm 82) 2⟩, om 18 83])
 (.seq
 (.seq
 (.dops [(om 84 18, []), (ow 85 (.bin .neq 31 (tm 84) (kc 0)), [0]), (om 86 85, [1]), (oz 87 86 (.mov (tm 10)), [2]), (oz 88 86 (.mov (tm 16)), [2]), (oz 89 86 (.iaddr 34 (tm 87) (tm 88) 1), [3, 4, 2]), (oz 90 86 (.load 3 (tm 89) none), [5, 2]), (oz 91 86 (.mov (tm 2)), [2]), (oz 92 86 (.call 38 [(tm 90), (tm 91)] 3), [6, 7, 2, 2]), (oz 93 86 (.load 43 (tm 17) (some 2)), [2]), (oz 94 86 (.call 36 [(tm 92), (tm 93)] 4), [8, 9, 8, 2]), (oz 95 86 (.un .not (tm 94)), [10, 2]), (ow 96 (.pick (tm 86) (.const (.bool true)) (tm 95)), [2, 11])])
 (.ite (tm 96)
 (.seq
 (.ops [ow 6 (.mov (.const (.bool false)))]) .ret) .skip))
 (.seq
 (.ops [ow 19 (.mov (kc 0))])
 (.block 2
 (.loop
 (.seq
 (.seq
 (.ops [om 97 19, om 98 16, ow 99 (.bin .lss 3 (tm 97) (tm 98))])
 (.ite (tm 99) .skip
 (.exit 2)))
 (.seq
 (.block 3
 (.seq
 (.ops [ow 103 (.load 29 (tm 11) (some 6)), om 104 16, om 105 19, ow 106 (.call 20 [(tm 103), (tm 104), (tm 105)] 38), om 102 106, ow 107 (.extract (tm 102) 0), ow 108 (.extract (tm 102) 1), om 20 107, om 21 108])
 (.seq
 (.dops [(om 109 10, []), (om 110 16, []), (ow 111 (.iaddr 34 (tm 109) (tm 110) 1), [0, 1]), (ow 112 (.load 3 (tm 111) none), [2]), (om 113 10, []), (om 114 19, []), (ow 115 (.iaddr 34 (tm 113) (tm 114) 1), [4, 5]), (ow 116 (.load 3 (tm 115) none), [6]), (ow 117 (.bin .eql 3 (tm 112) (tm 116)), [3, 7]), (om 22 117, [8, 0, 1, 2, 3, 4, 5, 6, 7, 8])])
 (.seq
 (.ops [om 118 21, ow 119 (.bin .neq 31 (tm 118) (kc 0)), om 120 119, oz 121 120 (.mov (tm 20)), oz 122 120 (.bin .eql 3 (tm 121) (kc 1)), oz 123 120 (.mov (tm 122)), oy 124 123 (.mov (tm 22)), oy 125 123 (.un .not (tm 124)), oz 126 120 (.pick (tm 123) (tm 125) (.const (.bool false))), ow 127 (.pick (tm 120) (.const (.bool true)) (tm 126)), om 128 127, oz 129 128 (.mov (tm 20)), oz 130 128 (.bin .eql 3 (tm 129) (kc 2)), oz 131 128 (.mov (tm 130)), oy 132 131 (.mov (tm 22)), oz 133 128 (.pick (tm 131) (tm 132) (.const (.bool false))), ow 134 (.pick (tm 128) (.const (.bool true)) (tm 133))])
 (.ite (tm 134)
 (.seq
 (.ops [ow 6 (.mov (.const (.bool false)))]) .ret) .skip)))))
 (.ops [om 100 19, ow 101 (.bin .add 3 (tm 100) (kc 1)), om 19 101])))))))))
 (.ops [om 76 16, ow 77 (.bin .add 3 (tm 76) (kc 1)), om 16 77]))))))
 (.seq
 (.ops [ow 135 (.call 22 [] 4), om 6 135]) .ret)))))))))
theorem fn7 : FnOK Tryz.prog 7 136 [.tmp 6] L7 := ⟨Tryz.f7, Tryz.func7, by kernel_rfl, Tryz.ntmps7, by rw [Tryz.results7], by kernel_rfl⟩
def L16 : LCode :=
 (.seq
 (.ops [ow 1 (.box 29 (tm 0)), ow 2 (.mov (kc 0)), ow 3 (.mov (kc 0)), ow 4 (.mov (kc 0))])
 (.seq
 (.ops [ow 12 (.faddr 29 (tm 1) 0 0), ow 13 (.load 25 (tm 12) (some 3)), ow 14 (.call 56 [(tm 13)] 32), om 11 14, ow 15 (.extract (tm 11) 0), ow 16 (.extract (tm 11) 1), ow 17 (.extract (tm 11) 2), om 5 15, om 6 16, om 7 17])
 (.seq
 (.seq
 (.ops [om 18 7, ow 19 (.bin .neq 31 (tm 18) (kc 0))])
 (.ite (tm 19)
 (.seq
 (.ops [om 20 7, ow 2 (.mov (kc 1)), ow 3 (.mov (kc 0)), om 4 20]) .ret) .skip))
 (.seq
 (.seq
 (.ops [ow 21 (.faddr 29 (tm 1) 1 3), ow 22 (.load 3 (tm 21) none), ow 23 (.call 40 [(tm 22), (kc 1), (kc 4)] 4), ow 24 (.un .not (tm 23))])
 (.ite (tm 24)
 (.seq
 (.ops [ow 2 (.mov (kc 2)), ow 3 (.mov (kc 0)), ow 4 (.mov (kc 7))]) .ret) .skip))
 (.seq
 (.seq
 (.ops [ow 25 (.faddr 29 (tm 1) 2 4), ow 26 (.load 26 (tm 25) none), ow 27 (.len false 26 3 (tm 26)), ow 28 (.bin .gtr 3 (tm 27) (kc 5))])
 (.ite (tm 28)
 (.seq
 (.ops [ow 2 (.mov (kc 3)), ow 3 (.mov (kc 0)), ow 4 (.mov (kc 3))]) .ret) .skip))
 (.seq
 (.seq
 (.ops [ow 8 (.mov (kc 0))])
 (.block 0
 (.loop
 (.seq
 (.seq
 (.ops [om 29 8, ow 30 (.faddr 29 (tm 1) 2 4), ow 31 (.load 26 (tm 30) none), ow 32 (.len false 26 3 (tm 31)), ow 33 (.bin .lss 3 (tm 29) (tm 32))])
 (.ite (tm 33) .skip
 (.exit 0)))
 (.seq
 (.block 1
 (.seq
 (.dops [(ow 36 (.load 29 (tm 1) (some 6)), []), (ow 37 (.faddr 29 (tm 1) 2 4), []), (ow 38 (.load 26 (tm 37) none), [1]), (om 39 8, []), (ow 40 (.iaddr 26 (tm 38) (tm 39) 5), [2, 3]), (ow 41 (.load 49 (tm 40) (some 5)), [4]), (om 42 8, []), (ow 43 (.call 57 [(tm 36), (tm 41), (tm 42)] 31), [0, 5, 6]), (om 7 43, [7, 7, 0, 1, 2, 3, 4, 5, 6, 7])])
 (.seq
 (.ops [om 44 7, ow 45 (.bin .neq 31 (tm 44) (kc 0))])
 (.ite (tm 45)
 (.seq
 (.ops [om 46 8, om 47 7, ow 2 (.mov (kc 3)), om 3 46, om 4 47]) .ret) .skip))))
 (.ops [om 34 8, ow 35 (.bin .add 3 (tm 34) (kc 1)), om 8 35]))))))
 (.seq
 (.seq
 (.ops [ow 48 (.faddr 29 (tm 1) 3 5), ow 49 (.load 27 (tm 48) none), ow 50 (.len false 27 3 (tm 49)), ow 51 (.bin .gtr 3 (tm 50) (kc 4))])
 (.ite (tm 51)
 (.seq
 (.ops [ow 2 (.mov (kc 4)), ow 3 (.mov (kc 0)), ow 4 (.mov (kc 3))]) .ret) .skip))
 (.seq
 (.seq
 (.ops [ow 9 (.mov (kc 0))])
 (.block 2
 (.loop
 (.seq
 (.seq
 (.ops [om 52 9, ow 53 (.faddr 29 (tm 1) 3 5), ow 54 (.load 27 (tm 53) none), ow 55 (.len false 27 3 (tm 54)), ow 56 (.bin .lss 3 (tm 52) (tm 55))])
 (.ite (tm 56) .skip
 (.exit 2)))
 (.seq
 (.block 3
 (.seq
 (.ops [ow 59 (.faddr 29 (tm 1) 3 5), ow 60 (.load 27 (tm 59) none), om 61 9, ow 62 (.iaddr 27 (tm 60) (tm 61) 3), ow 63 (.load 63 (tm 62) (some 3)), ow 10 (.alloc 63 [(.int .i64 0), (.int .i64 0), (.bool false)]), ⟨none, none, .store 63 (tm 10) (tm 63) 3⟩])
 (.seq
 (.seq
 (.ops [ow 64 (.faddr 63 (tm 10) 0 0), ow 65 (.load 3 (tm 64) none), ow 66 (.faddr 29 (tm 1) 2 4), ow 67 (.load 26 (tm 66) none), ow 68 (.len false 26 3 (tm 67)), ow 69 (.bin .sub 3 (tm 68) (kc 1)), ow 70 (.call 40 [(tm 65), (kc 0), (tm 69)] 4), ow 71 (.un .not (tm 70)), om 72 71, oz 73 72 (.faddr 63 (tm 10) 1 1), oz 74 72 (.load 3 (tm 73) none), oz 75 72 (.faddr 29 (tm 1) 2 4), oz 76 72 (.load 26 (tm 75) none), oz 77 72 (.len false 26 3 (tm 76)), oz 78 72 (.bin .sub 3 (tm 77) (kc 1)), oz 79 72 (.call 40 [(tm 74), (kc 0), (tm 78)] 4), oz 80 72 (.un .not (tm 79)), ow 81 (.pick (tm 72) (.const (.bool true)) (tm 80))])
 (.ite (tm 81)
 (.seq
 (.ops [om 82 9, ow 2 (.mov (kc 4)), om 3 82, ow 4 (.mov (kc 4))]) .ret) .skip))
 (.seq
 (.ops [ow 83 (.faddr 63 (tm 10) 0 0), ow 84 (.load 3 (tm 83) none), ow 85 (.faddr 63 (tm 10) 1 1), ow 86 (.load 3 (tm 85) none), ow 87 (.bin .eql 3 (tm 84) (tm 86))])
 (.ite (tm 87)
 (.seq
 (.ops [om 88 9, ow 2 (.mov (kc 4)), om 3 88, ow 4 (.mov (kc 2))]) .ret) .skip)))))
 (.ops [om 57 9, ow 58 (.bin .add 3 (tm 57) (kc 1)), om 9 58]))))))
 (.seq
 (.ops [ow 2 (.mov (kc 0)), ow 3 (.mov (kc 0)), ow 4 (.mov (kc 0))]) .ret)))))))))
theorem fn16 : FnOK Tryz.prog 16 89 [.tmp 2, .tmp 3, .tmp 4] L16 := ⟨Tryz.f16, Tryz.func16, by kernel_rfl, Tryz.ntmps16, by rw [Tryz.results16], by kernel_rfl⟩
def L33 : LCode :=
 (.seq
 (.ops [ow 1 (.box 29 (tm 0)), ow 2 (.mov (.const (.bool false)))])
 (.seq
 (.ops [ow 7 (.load 29 (tm 1) (some 6)), ow 8 (.call 16 [(tm 7)] 32), om 6 8, ow 9 (.extract (tm 6) 0), ow 10 (.extract (tm 6) 1), ow 11 (.extract (tm 6) 2), om 3 9, om 4 10, om 5 11])
 (.seq
 (.ops [om 12 5, ow 13 (.bin .eql 31 (tm 12) (kc 0)), om 2 13]) .ret)))
theorem fn33 : FnOK Tryz.prog 33 14 [.tmp 2] L33 := ⟨Tryz.f33, Tryz.func33, by kernel_rfl, Tryz.ntmps33, by rw [Tryz.results33], by kernel_rfl⟩
def L34 : LCode :=
 (.seq
 (.ops [ow 2 (.box 29 (tm 0)), ow 4 (.mov (.const (.slice none 0 0)))])
 (.seq
 (.ops [ow 6 (.faddr 29 (tm 2) 2 4), ow 7 (.load 26 (tm 6) none), ow 8 (.len false 26 3 (tm 7)), ow 9 (.call 83 [(tm 8)] 70), om 5 9])
 (.seq
 (.ops [om 10 5, om 11 1, ow 12 (.toInt .i64 5 3 (tm 11)), om 13 5, ow 14 (.len false 70 3 (tm 13)), ow 15 (.bin .rem 3 (tm 12) (tm 14)), ow 16 (.iaddr 70 (tm 10) (tm 15) 1), ow 17 (.load 34 (tm 16) none), om 4 17]) .ret)))
theorem fn34 : FnOK Tryz.prog 34 18 [.tmp 4] L34 := ⟨Tryz.f34, Tryz.func34, by kernel_rfl, Tryz.ntmps34, by rw [Tryz.results34], by kernel_rfl⟩
def L35 : LCode :=
 (.seq
 (.ops [ow 3 (.box 29 (tm 0)), ow 6 (.alloc 29 [(.int .i64 0), (.slice none 0 0), (.slice none 0 0), (.int .i64 0), (.slice none 0 0), (.slice none 0 0)])])
 (.seq
 (.ops [ow 21 (.load 29 (tm 3) (some 6)), ow 7 (.alloc 29 [(.int .i64 0), (.slice none 0 0), (.slice none 0 0), (.int .i64 0), (.slice none 0 0), (.slice none 0 0)]), ⟨none, none, .store 29 (tm 7) (tm 21) 6⟩])
 (.seq
 (.ops [ow 22 (.faddr 29 (tm 7) 2 4), ⟨none, none, .store 26 (tm 22) (.const (.slice none 0 0)) 1⟩, ow 23 (.faddr 29 (tm 7) 3 5), ⟨none, none, .store 27 (tm 23) (.const (.slice none 0 0)) 1⟩])
 (.seq
 (.seq
 (.ops [ow 8 (.mov (kc 0))])
 (.block 0
 (.loop
 (.seq
 (.seq
 (.ops [om 24 8, ow 25 (.faddr 29 (tm 3) 2 4), ow 26 (.load 26 (tm 25) none), ow 27 (.len false 26 3 (tm 26)), ow 28 (.bin .lss 3 (tm 24) (tm 27))])
 (.ite (tm 28) .skip
 (.exit 0)))
 (.seq
 (.block 1
 (.seq
 (.ops [ow 31 (.faddr 29 (tm 3) 2 4), ow 32 (.load 26 (tm 31) none), om 33 8, ow 34 (.iaddr 26 (tm 32) (tm 33) 5), ow 35 (.load 49 (tm 34) (some 5)), ow 9 (.alloc 49 [(.int .i64 0), (.int .i64 0), (.int .i64 0), (.int .i64 0), (.int .i64 0)]), ⟨none, none, .store 49 (tm 9) (tm 35) 5⟩])
 (.seq
 (.ops [ow 10 (.mov (.const (.slice none 0 0)))])
 (.seq
 (.seq
 (.ops [ow 11 (.mov (kc 0))])
 (.block 2
 (.loop
 (.seq
 (.seq
 (.ops [om 36 11, om 37 8, ow 38 (.bin .lss 3 (tm 36) (tm 37))])
 (.ite (tm 38) .skip
 (.exit 2)))
 (.seq
 (.block 3
 (.seq
 (.dops [(om 41 1, []), (om 42 11, []), (ow 43 (.iaddr 34 (tm 41) (tm 42) 1), [0, 1]), (ow 44 (.load 3 (tm 43) none), [2]), (om 45 1, []), (om 46 8, []), (ow 47 (.iaddr 34 (tm 45) (tm 46) 1), [4, 5]), (ow 48 (.load 3 (tm 47) none), [6]), (ow 49 (.bin .eql 3 (tm 44) (tm 48)), [3, 7])])
 (.ite (tm 49)
 (.seq
 (.ops [om 50 10, ow 51 (.faddr 29 (tm 7) 2 4), ow 52 (.load 26 (tm 51) none), om 53 11, ow 54 (.iaddr 26 (tm 52) (tm 53) 5), ow 55 (.faddr 49 (tm 54) 0 0), ow 56 (.load 3 (tm 55) none), ow 57 (.bslice 34 1 [(0, (tm 56))] 3 1 [(.int .i64 0)]), ow 58 (.append 34 34 (tm 50) (tm 57) 3 1 8 [(.int .i64 0)]), om 10 58])
 (.seq
 (.ops [ow 59 (.faddr 49 (tm 9) 1 1), ow 60 (.load 3 (tm 59) none), ow 61 (.bin .neq 3 (tm 60) (kc (-1)))])
 (.ite (tm 61)
 (.dops [(ow 62 (.faddr 49 (tm 9) 1 1), []), (ow 63 (.load 3 (tm 62) none), [0]), (ow 64 (.faddr 29 (tm 7) 2 4), []), (ow 65 (.load 26 (tm 64) none), [2]), (om 66 11, []), (ow 67 (.iaddr 26 (tm 65) (tm 66) 5), [3, 4]), (ow 68 (.faddr 49 (tm 67) 1 1), [5]), (ow 69 (.load 3 (tm 68) none), [6]), (ow 70 (.max [3, 3] 3 [(tm 63), (tm 69)]), [1, 7]), (ow 71 (.faddr 49 (tm 9) 1 1), [0, 1, 2, 3, 4, 5, 6, 7, 8]), (⟨none, none, .store 3 (tm 71) (tm 70) 1⟩, [9, 8, 0, 1, 2, 3, 4, 5, 6, 7, 8])]) .skip))) .skip)))
 (.ops [om 39 11, ow 40 (.bin .add 3 (tm 39) (kc 1)), om 11 40]))))))
 (.seq
 (.seq
 (.dops [(om 72 10, []), (ow 73 (.len false 34 3 (tm 72)), [0]), (ow 74 (.bin .gtr 3 (tm 73) (kc 0)), [1]), (om 75 74, [2]), (oy 76 75 (.faddr 29 (tm 3) 0 0), [3]), (oy 77 75 (.load 25 (tm 76) (some 3)), [4, 3]), (oy 78 75 (.bslice 34 0 [] 3 1 [(.int .i64 0)]), [3]), (oy 79 75 (.mov (tm 10)), [3]), (oy 80 75 (.append 34 34 (tm 78) (tm 79) 3 1 8 [(.int .i64 0)]), [6, 7, 3, 3]), (oy 81 75 (.faddr 49 (tm 9) 0 0), [3]), (oy 82 75 (.load 3 (tm 81) none), [9, 3]), (oy 83 75 (.bslice 34 1 [(0, (tm 82))] 3 1 [(.int .i64 0)]), [10, 3]), (oy 84 75 (.append 34 34 (tm 80) (tm 83) 3 1 8 [(.int .i64 0)]), [8, 11, 8, 3]), (oy 85 75 (.call 85 [(tm 77), (tm 84)] 119), [5, 12, 12, 3]), (oy 86 75 (.call 84 [(tm 85)] 3), [13, 13, 3]), (oy 87 75 (.bin .lss 3 (tm 86) (kc 0)), [14, 3]), (ow 88 (.pick (tm 75) (tm 87) (.const (.bool false))), [3, 15])])
 (.ite (tm 88)
 (.ops [om 89 10, ow 90 (.iaddr 34 (tm 89) (kc 0) 1), ow 91 (.load 3 (tm 90) none), ow 92 (.faddr 49 (tm 9) 0 0), ⟨none, none, .store 3 (tm 92) (tm 91) 1⟩]) .skip))
 (.seq
 (.ops [om 93 1, om 94 8, ow 95 (.iaddr 34 (tm 93) (tm 94) 1), ow 96 (.load 3 (tm 95) none), om 97 2, ow 98 (.call 38 [(tm 96), (tm 97)] 3), om 12 98])
 (.seq
 (.ops [ow 99 (.faddr 49 (tm 9) 2 2), ow 100 (.faddr 43 (tm 99) 0 0), ow 101 (.load 3 (tm 100) none), om 102 12, ow 103 (.min [3, 3] 3 [(tm 101), (tm 102)]), ow 104 (.faddr 49 (tm 9) 2 2), ow 105 (.faddr 43 (tm 104) 1 1), ow 106 (.load 3 (tm 105) none), om 107 12, ow 108 (.max [3, 3] 3 [(tm 106), (tm 107)]), ow 109 (.call 48 [(tm 103), (tm 108)] 43), ow 110 (.faddr 49 (tm 9) 2 2), ⟨none, none, .store 43 (tm 110) (tm 109) 2⟩])
 (.seq
 (.seq
 (.ops [ow 111 (.faddr 49 (tm 9) 3 4), ow 112 (.load 3 (tm 111) none), ow 113 (.bin .neq 3 (tm 112) (kc (-1)))])
 (.ite (tm 113)
 (.seq
 (.ops [om 114 12, om 115 1, ow 116 (.faddr 49 (tm 9) 3 4), ow 117 (.load 3 (tm 116) none), ow 118 (.iaddr 34 (tm 115) (tm 117) 1), ow 119 (.load 3 (tm 118) none), om 120 2, ow 121 (.call 38 [(tm 119), (tm 120)] 3), ow 122 (.bin .sub 3 (tm 114) (tm 121)), om 13 122])
 (.seq
 (.dops [(om 123 1, []), (ow 124 (.faddr 49 (tm 9) 3 4), []), (ow 125 (.load 3 (tm 124) none), [1]), (ow 126 (.iaddr 34 (tm 123) (tm 125) 1), [0, 2]), (ow 127 (.load 3 (tm 126) none), [3]), (om 128 1, []), (om 129 8, []), (ow 130 (.iaddr 34 (tm 128) (tm 129) 1), [5, 6]), (ow 131 (.load 3 (tm 130) none), [7]), (ow 132 (.bin .neq 3 (tm 127) (tm 131)), [4, 8]), (om 133 132, [9]), (oy 134 133 (.mov (tm 13)), [10]), (oy 135 133 (.call 40 [(tm 134), (kc 15), (kc 60)] 4), [11, 10, 10]), (ow 136 (.pick (tm 133) (tm 135) (.const (.bool false))), [10, 12]), (om 14 136, [13, 12, 0, 1, 2, 3, 4, 5, 6, 7, 8, 9, 10, 11, 12, 13])])
 (.seq
 (.seq
 (.ops [ow 15 (.mov (kc 0))])
 (.block 4
 (.loop
 (.seq
 (.seq
 (.ops [om 137 15, om 138 8, ow 139 (.bin .lss 3 (tm 137) (tm 138))])
 (.ite (tm 139) .skip
 (.exit 4)))
 (.seq
 (.block 5
 (.seq
 (.ops [ow 142 (.faddr 29 (tm 7) 2 4), ow 143 (.load 26 (tm 142) none), om 144 15, ow 145 (.iaddr 26 (tm 143) (tm 144) 5), ow 146 (.faddr 49 (tm 145) 3 4), ow 147 (.load 3 (tm 146) none), om 16 147])
 (.dops [(om 148 14, []), (om 149 148, [0]), (oy 150 149 (.mov (tm 1)), [1]), (oy 151 149 (.mov (tm 15)), [1]), (oy 152 149 (.iaddr 34 (tm 150) (tm 151) 1), [2, 3, 1]), (oy 153 149 (.load 3 (tm 152) none), [4, 1]), (oy 154 149 (.mov (tm 1)), [1]), (oy 155 149 (.mov (tm 8)), [1]), (oy 156 149 (.iaddr 34 (tm 154) (tm 155) 1), [6, 7, 1]), (oy 157 149 (.load 3 (tm 156) none), [8, 1]), (oy 158 149 (.bin .neq 3 (tm 153) (tm 157)), [5, 9, 1]), (oy 159 149 (.mov (tm 158)), [10, 1, 1]), (oz 160 159 (.mov (tm 16)), [11]), (oz 161 159 (.bin .eql 3 (tm 160) (kc (-1))), [12, 11]), (oy 162 149 (.pick (tm 159) (.const (.bool true)) (tm 161)), [11, 13, 1]), (oy 163 149 (.mov (tm 162)), [14, 11, 1]), (oz 164 163 (.mov (tm 1)), [15]), (oz 165 163 (.mov (tm 16)), [15]), (oz 166 163 (.iaddr 34 (tm 164) (tm 165) 1), [16, 17, 15]), (oz 167 163 (.load 3 (tm 166) none), [18, 15]), (oz 168 163 (.mov (tm 1)), [15]), (oz 169 163 (.faddr 49 (tm 9) 3 4), [15]), (oz 170 163 (.load 3 (tm 169) none), [21, 15]), (oz 171 163 (.iaddr 34 (tm 168) (tm 170) 1), [20, 22, 15]), (oz 172 163 (.load 3 (tm 171) none), [23, 15]), (oz 173 163 (.bin .eql 3 (tm 167) (tm 172)), [19, 24, 15]), (oy 174 149 (.pick (tm 163) (.const (.bool true)) (tm 173)), [15, 25, 1]), (ow 175 (.pick (tm 149) (tm 174) (.const (.bool false))), [1, 26]), (om 14 175, [27, 15, 0, 1, 2, 3, 4, 5, 6, 7, 8, 9, 10, 11, 12, 13, 14, 15, 16, 17, 18, 19, 20, 21, 22, 23, 24, 25, 26, 27])])))
 (.ops [om 140 15, ow 141 (.bin .add 3 (tm 140) (kc 1)), om 15 141]))))))
 (.seq
 (.ops [om 176 14, ow 177 (.un .not (tm 176))])
 (.ite (tm 177)
 (.ops [ow 178 (.faddr 49 (tm 9) 3 4), ⟨none, none, .store 3 (tm 178) (kc (-1)) 1⟩]) .skip))))) .skip))
 (.dops [(ow 179 (.bslice 26 0 [] 49 5 [(.int .i64 0), (.int .i64 0), (.int .i64 0), (.int .i64 0), (.int .i64 0)]), []), (ow 180 (.faddr 29 (tm 7) 2 4), []), (ow 181 (.load 26 (tm 180) none), [1]), (ow 182 (.append 26 26 (tm 179) (tm 181) 49 5 40 [(.int .i64 0), (.int .i64 0), (.int .i64 0), (.int .i64 0), (.int .i64 0)]), [0, 2]), (ow 183 (.load 49 (tm 9) (some 5)), []), (ow 184 (.bslice 26 1 [(0, (tm 183))] 49 5 [(.int .i64 0), (.int .i64 0), (.int .i64 0), (.int .i64 0), (.int .i64 0)]), [4]), (ow 185 (.append 26 26 (tm 182) (tm 184) 49 5 40 [(.int .i64 0), (.int .i64 0), (.int .i64 0), (.int .i64 0), (.int .i64 0)]), [3, 5, 3]), (ow 186 (.faddr 29 (tm 7) 2 4), [0, 1, 2, 3, 4, 5, 6]), (⟨none, none, .store 26 (tm 186) (tm 185) 1⟩, [7, 6, 6, 0, 1, 2, 3, 4, 5, 6])])))))))))
 (.ops [om 29 8, ow 30 (.bin .add 3 (tm 29) (kc 1)), om 8 30]))))))
 (.seq
 (.seq
 (.ops [ow 17 (.mov (kc 0))])
 (.block 6
 (.loop
 (.seq
 (.seq
 (.ops [om 187 17, ow 188 (.faddr 29 (tm 7) 2 4), ow 189 (.load 26 (tm 188) none), ow 190 (.len false 26 3 (tm 189)), ow 191 (.bin .lss 3 (tm 187) (tm 190))])
 (.ite (tm 191) .skip
 (.exit 6)))
 (.seq
 (.block 7
 (.seq
 (.ops [om 194 17, ow 195 (.bin .add 3 (tm 194) (kc 1)), om 18 195])
 (.block 8
 (.loop
 (.seq
 (.seq
 (.ops [om 196 18, ow 197 (.faddr 29 (tm 7) 2 4), ow 198 (.load 26 (tm 197) none), ow 199 (.len false 26 3 (tm 198)), ow 200 (.bin .lss 3 (tm 196) (tm 199))])
 (.ite (tm 200) .skip
 (.exit 8)))
 (.seq
 (.block 9
 (.seq
 (.dops [(om 203 1, []), (om 204 18, []), (ow 205 (.iaddr 34 (tm 203) (tm 204) 1), [0, 1]), (ow 206 (.load 3 (tm 205) none), [2]), (om 207 1, []), (om 208 17, []), (ow 209 (.iaddr 34 (tm 207) (tm 208) 1), [4, 5]), (ow 210 (.load 3 (tm 209) none), [6]), (ow 211 (.bin .eql 3 (tm 206) (tm 210)), [3, 7]), (om 212 211, [8]), (oy 213 212 (.faddr 29 (tm 7) 2 4), [9]), (oy 214 212 (.load 26 (tm 213) none), [10, 9]), (oy 215 212 (.mov (tm 17)), [9]), (oy 216 212 (.iaddr 26 (tm 214) (tm 215) 5), [11, 12, 9]), (oy 217 212 (.faddr 49 (tm 216) 1 1), [13, 9]), (oy 218 212 (.load 3 (tm 217) none), [14, 9]), (oy 219 212 (.bin .neq 3 (tm 218) (kc (-1))), [15, 9]), (ow 220 (.pick (tm 212) (tm 219) (.const (.bool false))), [9, 16]), (om 221 220, [17, 9]), (oy 222 221 (.faddr 29 (tm 7) 2 4), [18]), (oy 223 221 (.load 26 (tm 222) none), [19, 18]), (oy 224 221 (.mov (tm 18)), [18]), (oy 225 221 (.iaddr 26 (tm 223) (tm 224) 5), [20, 21, 18]), (oy 226 221 (.faddr 49 (tm 225) 1 1), [22, 18]), (oy 227 221 (.load 3 (tm 226) none), [23, 18]), (oy 228 221 (.bin .neq 3 (tm 227) (kc (-1))), [24, 18]), (ow 229 (.pick (tm 221) (tm 228) (.const (.bool false))), [18, 25])])
 (.ite (tm 229)
 (.dops [(ow 230 (.faddr 29 (tm 7) 2 4), []), (ow 231 (.load 26 (tm 230) none), [0]), (om 232 17, []), (ow 233 (.faddr 29 (tm 7) 2 4), []), (ow 234 (.load 26 (tm 233) none), [3]), (om 235 18, []), (ow 236 (.iaddr 26 (tm 234) (tm 235) 5), [4, 5]), (ow 237 (.faddr 49 (tm 236) 1 1), [6]), (ow 238 (.load 3 (tm 237) none), [7]), (ow 239 (.iaddr 26 (tm 231) (tm 232) 5), [1, 2, 0, 1, 2, 3, 4, 5, 6, 7, 8]), (ow 240 (.faddr 49 (tm 239) 1 1), [9, 0, 1, 2, 3, 4, 5, 6, 7, 8]), (⟨none, none, .store 3 (tm 240) (tm 238) 1⟩, [10, 8, 0, 1, 2, 3, 4, 5, 6, 7, 8])]) .skip)))
 (.ops [om 201 18, ow 202 (.bin .add 3 (tm 201) (kc 1)), om 18 202])))))))
 (.ops [om 192 17, ow 193 (.bin .add 3 (tm 192) (kc 1)), om 17 193]))))))
 (.seq
 (.seq
 (.ops [ow 19 (.mov (kc 0))])
 (.block 10
 (.loop
 (.seq
 (.seq
 (.ops [om 241 19, ow 242 (.faddr 29 (tm 3) 3 5), ow 243 (.load 27 (tm 242) none), ow 244 (.len false 27 3 (tm 243)), ow 245 (.bin .lss 3 (tm 241) (tm 244))])
 (.ite (tm 245) .skip
 (.exit 10)))
 (.seq
 (.block 11
 (.seq
 (.ops [ow 248 (.faddr 29 (tm 3) 3 5), ow 249 (.load 27 (tm 248) none), om 250 19, ow 251 (.iaddr 27 (tm 249) (tm 250) 3), ow 252 (.load 63 (tm 251) (some 3)), ow 20 (.alloc 63 [(.int .i64 0), (.int .i64 0), (.bool false)]), ⟨none, none, .store 63 (tm 20) (tm 252) 3⟩])
 (.seq
 (.dops [(om 253 1, []), (ow 254 (.faddr 63 (tm 20) 0 0), []), (ow 255 (.load 3 (tm 254) none), [1]), (ow 256 (.iaddr 34 (tm 253) (tm 255) 1), [0, 2]), (ow 257 (.load 3 (tm 256) none), [3]), (om 258 1, []), (ow 259 (.faddr 63 (tm 20) 1 1), []), (ow 260 (.load 3 (tm 259) none), [6]), (ow 261 (.iaddr 34 (tm 258) (tm 260) 1), [5, 7]), (ow 262 (.load 3 (tm 261) none), [8]), (ow 263 (.bin .eql 3 (tm 257) (tm 262)), [4, 9]), (ow 264 (.faddr 63 (tm 20) 2 2), [0, 1, 2, 3, 4, 5, 6, 7, 8, 9, 10]), (⟨none, none, .store 4 (tm 264) (tm 263) 1⟩, [11, 10, 0, 1, 2, 3, 4, 5, 6, 7, 8, 9, 10])])
 (.dops [(ow 265 (.bslice 27 0 [] 63 3 [(.int .i64 0), (.int .i64 0), (.bool false)]), []), (ow 266 (.faddr 29 (tm 7) 3 5), []), (ow 267 (.load 27 (tm 266) none), [1]), (ow 268 (.append 27 27 (tm 265) (tm 267) 63 3 24 [(.int .i64 0), (.int .i64 0), (.bool false)]), [0, 2]), (ow 269 (.load 63 (tm 20) (some 3)), []), (ow 270 (.bslice 27 1 [(0, (tm 269))] 63 3 [(.int .i64 0), (.int .i64 0), (.bool false)]), [4]), (ow 271 (.append 27 27 (tm 268) (tm 270) 63 3 24 [(.int .i64 0), (.int .i64 0), (.bool false)]), [3, 5, 3]), (ow 272 (.faddr 29 (tm 7) 3 5), [0, 1, 2, 3, 4, 5, 6]), (⟨none, none, .store 27 (tm 272) (tm 271) 1⟩, [7, 6, 6, 0, 1, 2, 3, 4, 5, 6])]))))
 (.ops [om 246 19, ow 247 (.bin .add 3 (tm 246) (kc 1)), om 19 247]))))))
 (.seq
 (.ops [ow 273 (.load 29 (tm 7) (some 6)), ⟨none, none, .store 29 (tm 6) (tm 273) 6⟩]) .ret)))))))
theorem fn35 : FnOK Tryz.prog 35 274 [.cell 6 29] L35 := ⟨Tryz.f35, Tryz.func35, by kernel_rfl, Tryz.ntmps35, by rw [Tryz.results35], by kernel_rfl⟩
def L36 : LCode :=
 (.seq
 (.ops [ow 3 (.box 43 (tm 1)), ow 4 (.mov (.const (.bool false)))])
 (.seq
 (.ops [om 5 0, ow 6 (.faddr 43 (tm 3) 0 0), ow 7 (.load 3 (tm 6) none), ow 8 (.faddr 43 (tm 3) 1 1), ow 9 (.load 3 (tm 8) none), ow 10 (.call 40 [(tm 5), (tm 7), (tm 9)] 4), om 4 10]) .ret))
theorem fn36 : FnOK Tryz.prog 36 11 [.tmp 4] L36 := ⟨Tryz.f36, Tryz.func36, by kernel_rfl, Tryz.ntmps36, by rw [Tryz.results36], by kernel_rfl⟩
def L37 : LCode :=
 (.seq
 (.ops [ow 2 (.mov (kc 0))])
 (.seq
 (.ops [ow 3 (.mov (kc 0))])
 (.seq
 (.seq
 (.ops [ow 4 (.mov (kc 0))])
 (.block 0
 (.loop
 (.seq
 (.seq
 (.ops [om 5 4, om 6 0, ow 7 (.len false 34 3 (tm 6)), ow 8 (.bin .lss 3 (tm 5) (tm 7))])
 (.ite (tm 8) .skip
 (.exit 0)))
 (.seq
 (.block 1
 (.ops [om 11 3, om 12 0, om 13 4, ow 14 (.iaddr 34 (tm 12) (tm 13) 1), ow 15 (.load 3 (tm 14) none), ow 16 (.bin .add 3 (tm 15) (kc 1)), ow 17 (.max [3, 3] 3 [(tm 11), (tm 16)]), om 3 17]))
 (.ops [om 9 4, ow 10 (.bin .add 3 (tm 9) (kc 1)), om 4 10]))))))
 (.seq
 (.ops [om 18 3, om 2 18]) .ret))))
theorem fn37 : FnOK Tryz.prog 37 19 [.tmp 2] L37 := ⟨Tryz.f37, Tryz.func37, by kernel_rfl, Tryz.ntmps37, by rw [Tryz.results37], by kernel_rfl⟩
def L38 : LCode :=
 (.seq
 (.ops [ow 4 (.mov (kc 0))])
 (.seq
 (.seq
 (.ops [om 5 1, ow 6 (.len false 55 3 (tm 5)), ow 7 (.bin .eql 3 (tm 6) (kc 0))])
 (.ite (tm 7)
 (.seq
 (.ops [ow 4 (.mov (kc 0))]) .ret) .skip))
 (.seq
 (.ops [om 8 1, om 9 0, om 10 1, ow 11 (.len false 55 3 (tm 10)), ow 12 (.bin .rem 3 (tm 9) (tm 11)), ow 13 (.iaddr 55 (tm 8) (tm 12) 1), ow 14 (.load 5 (tm 13) none), ow 15 (.toInt .i64 5 3 (tm 14)), ow 16 (.bin .rem 3 (tm 15) (kc 200)), om 4 16]) .ret)))
theorem fn38 : FnOK Tryz.prog 38 17 [.tmp 4] L38 := ⟨Tryz.f38, Tryz.func38, by kernel_rfl, Tryz.ntmps38, by rw [Tryz.results38], by kernel_rfl⟩
def L40 : LCode :=
 (.seq
 (.ops [ow 6 (.mov (.const (.bool false)))])
 (.seq
 (.ops [om 7 0, om 8 1, ow 9 (.bin .geq 3 (tm 7) (tm 8)), om 10 9, oy 11 10 (.mov (tm 0)), oy 12 10 (.mov (tm 2)), oy 13 10 (.bin .leq 3 (tm 11) (tm 12)), ow 14 (.pick (tm 10) (tm 13) (.const (.bool false))), om 6 14]) .ret))
theorem fn40 : FnOK Tryz.prog 40 15 [.tmp 6] L40 := ⟨Tryz.f40, Tryz.func40, by kernel_rfl, Tryz.ntmps40, by rw [Tryz.results40], by kernel_rfl⟩
def L41 : LCode :=
 (.seq
 (.ops [ow 4 (.mov (.const (.bool false)))])
 (.seq
 (.seq
 (.ops [ow 5 (.mov (kc 0))])
 (.block 0
 (.loop
 (.seq
 (.seq
 (.ops [om 6 5, om 7 1, ow 8 (.bin .lss 3 (tm 6) (tm 7))])
 (.ite (tm 8) .skip
 (.exit 0)))
 (.seq
 (.block 1
 (.ops [om 11 0, ow 12 (.bin .quo 3 (tm 11) (kc 2)), om 0 12]))
 (.ops [om 9 5, ow 10 (.bin .add 3 (tm 9) (kc 1)), om 5 10]))))))
 (.seq
 (.ops [om 13 0, ow 14 (.bin .rem 3 (tm 13) (kc 2)), ow 15 (.bin .eql 3 (tm 14) (kc 1)), om 4 15]) .ret)))
theorem fn41 : FnOK Tryz.prog 41 16 [.tmp 4] L41 := ⟨Tryz.f41, Tryz.func41, by kernel_rfl, Tryz.ntmps41, by rw [Tryz.results41], by kernel_rfl⟩
def L56 : LCode :=
 (.seq
 (.ops [ow 1 (.box 25 (tm 0)), ow 2 (.mov (kc 0)), ow 3 (.mov (kc 0)), ow 4 (.mov (kc 0))])
 (.seq
 (.seq
 (.ops [ow 10 (.faddr 25 (tm 1) 0 0), ow 11 (.load 3 (tm 10) none), ow 12 (.call 40 [(tm 11), (kc 1), (kc 4)] 4), ow 13 (.un .not (tm 12))])
 (.ite (tm 13)
 (.seq
 (.ops [ow 2 (.mov (kc 1)), ow 3 (.mov (kc 0)), ow 4 (.mov (kc 7))]) .ret) .skip))
 (.seq
 (.seq
 (.ops [ow 14 (.faddr 25 (tm 1) 1 1), ow 15 (.load 22 (tm 14) none), ow 16 (.len false 22 3 (tm 15)), ow 17 (.call 40 [(tm 16), (kc 1), (kc 3)] 4), ow 18 (.un .not (tm 17))])
 (.ite (tm 18)
 (.seq
 (.ops [ow 2 (.mov (kc 2)), ow 3 (.mov (kc 0)), ow 4 (.mov (kc 3))]) .ret) .skip))
 (.seq
 (.ops [ow 5 (.mov (.const (.slice none 0 0)))])
 (.seq
 (.seq
 (.ops [ow 6 (.mov (kc 0))])
 (.block 0
 (.loop
 (.seq
 (.seq
 (.ops [om 19 6, ow 20 (.faddr 25 (tm 1) 1 1), ow 21 (.load 22 (tm 20) none), ow 22 (.len false 22 3 (tm 21)), ow 23 (.bin .lss 3 (tm 19) (tm 22))])
 (.ite (tm 23) .skip
 (.exit 0)))
 (.seq
 (.block 1
 (.seq
 (.ops [ow 26 (.faddr 25 (tm 1) 1 1), ow 27 (.load 22 (tm 26) none), om 28 6, ow 29 (.iaddr 22 (tm 27) (tm 28) 2), ow 30 (.faddr 125 (tm 29) 0 0), ow 31 (.load 9 (tm 30) none), om 32 5, ow 33 (.call 101 [(tm 31), (tm 32)] 31), om 7 33])
 (.seq
 (.ops [om 34 5, ow 35 (.faddr 25 (tm 1) 1 1), ow 36 (.load 22 (tm 35) none), om 37 6, ow 38 (.iaddr 22 (tm 36) (tm 37) 2), ow 39 (.faddr 125 (tm 38) 0 0), ow 40 (.load 9 (tm 39) none), ow 41 (.bslice 146 1 [(0, (tm 40))] 9 1 [(.string ⟨#[]⟩)]), ow 42 (.append 146 146 (tm 34) (tm 41) 9 1 16 [(.string ⟨#[]⟩)]), om 5 42])
 (.seq
 (.seq
 (.ops [om 43 7, ow 44 (.bin .eql 31 (tm 43) (kc 0))])
 (.ite (tm 44)
 (.dops [(ow 45 (.load 25 (tm 1) (some 3)), []), (ow 46 (.faddr 25 (tm 1) 1 1), []), (ow 47 (.load 22 (tm 46) none), [1]), (om 48 6, []), (ow 49 (.iaddr 22 (tm 47) (tm 48) 2), [2, 3]), (ow 50 (.faddr 125 (tm 49) 1 1), [4]), (ow 51 (.load 123 (tm 50) none), [5]), (ow 52 (.call 102 [(tm 45), (tm 51)] 31), [0, 6]), (om 7 52, [7, 7, 0, 1, 2, 3, 4, 5, 6, 7])]) .skip))
 (.seq
 (.ops [om 53 7, ow 54 (.bin .neq 31 (tm 53) (kc 0))])
 (.ite (tm 54)
 (.seq
 (.ops [om 55 6, om 56 7, ow 2 (.mov (kc 2)), om 3 55, om 4 56]) .ret) .skip))))))
 (.ops [om 24 6, ow 25 (.bin .add 3 (tm 24) (kc 1)), om 6 25]))))))
 (.seq
 (.seq
 (.ops [ow 57 (.faddr 25 (tm 1) 2 2), ow 58 (.load 23 (tm 57) none), ow 59 (.len false 23 3 (tm 58)), ow 60 (.bin .gtr 3 (tm 59) (kc 5))])
 (.ite (tm 60)
 (.seq
 (.ops [ow 2 (.mov (kc 3)), ow 3 (.mov (kc 0)), ow 4 (.mov (kc 3))]) .ret) .skip))
 (.seq
 (.seq
 (.ops [ow 8 (.mov (kc 0))])
 (.block 2
 (.loop
 (.seq
 (.seq
 (.ops [om 61 8, ow 62 (.faddr 25 (tm 1) 2 2), ow 63 (.load 23 (tm 62) none), ow 64 (.len false 23 3 (tm 63)), ow 65 (.bin .lss 3 (tm 61) (tm 64))])
 (.ite (tm 65) .skip
 (.exit 2)))
 (.seq
 (.block 3
 (.seq
 (.dops [(ow 68 (.load 25 (tm 1) (some 3)), []), (ow 69 (.faddr 25 (tm 1) 2 2), []), (ow 70 (.load 23 (tm 69) none), [1]), (om 71 8, []), (ow 72 (.iaddr 23 (tm 70) (tm 71) 2), [2, 3]), (ow 73 (.load 141 (tm 72) (some 2)), [4]), (ow 74 (.call 103 [(tm 68), (tm 73)] 31), [0, 5]), (om 9 74, [6, 6, 0, 1, 2, 3, 4, 5, 6])])
 (.seq
 (.ops [om 75 9, ow 76 (.bin .neq 31 (tm 75) (kc 0))])
 (.ite (tm 76)
 (.seq
 (.ops [om 77 8, om 78 9, ow 2 (.mov (kc 3)), om 3 77, om 4 78]) .ret) .skip))))
 (.ops [om 66 8, ow 67 (.bin .add 3 (tm 66) (kc 1)), om 8 67]))))))
 (.seq
 (.ops [ow 2 (.mov (kc 0)), ow 3 (.mov (kc 0)), ow 4 (.mov (kc 0))]) .ret))))))))
theorem fn56 : FnOK Tryz.prog 56 79 [.tmp 2, .tmp 3, .tmp 4] L56 := ⟨Tryz.f56, Tryz.func56, by kernel_rfl, Tryz.ntmps56, by rw [Tryz.results56], by kernel_rfl⟩
def L57 : LCode :=
 (.seq
 (.ops [ow 3 (.box 29 (tm 0)), ow 4 (.box 49 (tm 1)), ow 6 (.mov (kc 0))])
 (.seq
 (.seq
 (.ops [ow 8 (.faddr 49 (tm 4) 0 0), ow 9 (.load 3 (tm 8) none), ow 10 (.faddr 29 (tm 3) 0 0), ow 11 (.faddr 25 (tm 10) 2 2), ow 12 (.load 23 (tm 11) none), ow 13 (.len false 23 3 (tm 12)), ow 14 (.bin .sub 3 (tm 13) (kc 1)), ow 15 (.call 40 [(tm 9), (kc 0), (tm 14)] 4), ow 16 (.un .not (tm 15)), om 17 16, oz 18 17 (.faddr 49 (tm 4) 1 1), oz 19 17 (.load 3 (tm 18) none), oz 20 17 (.faddr 29 (tm 3) 1 3), oz 21 17 (.load 3 (tm 20) none), oz 22 17 (.bin .sub 3 (tm 21) (kc 1)), oz 23 17 (.call 40 [(tm 19), (kc (-1)), (tm 22)] 4), oz 24 17 (.un .not (tm 23)), ow 25 (.pick (tm 17) (.const (.bool true)) (tm 24)), om 26 25, oz 27 26 (.faddr 49 (tm 4) 3 4), oz 28 26 (.load 3 (tm 27) none), oz 29 26 (.faddr 29 (tm 3) 2 4), oz 30 26 (.load 26 (tm 29) none), oz 31 26 (.len false 26 3 (tm 30)), oz 32 26 (.bin .sub 3 (tm 31) (kc 1)), oz 33 26 (.call 40 [(tm 28), (kc (-1)), (tm 32)] 4), oz 34 26 (.un .not (tm 33)), ow 35 (.pick (tm 26) (.const (.bool true)) (tm 34))])
 (.ite (tm 35)
 (.seq
 (.ops [ow 6 (.mov (kc 4))]) .ret) .skip))
 (.seq
 (.ops [ow 36 (.faddr 49 (tm 4) 2 2), ow 37 (.load 43 (tm 36) (some 2)), ow 38 (.call 104 [(tm 37), (kc 0), (kc 199)] 31), om 7 38])
 (.seq
 (.seq
 (.ops [om 39 7, ow 40 (.bin .eql 31 (tm 39) (kc 0)), om 41 40, oy 42 41 (.faddr 49 (tm 4) 3 4), oy 43 41 (.load 3 (tm 42) none), oy 44 41 (.mov (tm 2)), oy 45 41 (.bin .eql 3 (tm 43) (tm 44)), ow 46 (.pick (tm 41) (tm 45) (.const (.bool false)))])
 (.ite (tm 46)
 (.ops [ow 7 (.mov (kc 2))]) .skip))
 (.seq
 (.ops [om 47 7, om 6 47]) .ret)))))
theorem fn57 : FnOK Tryz.prog 57 48 [.tmp 6] L57 := ⟨Tryz.f57, Tryz.func57, by kernel_rfl, Tryz.ntmps57, by rw [Tryz.results57], by kernel_rfl⟩
def L83 : LCode :=
 (.seq
 (.ops [ow 2 (.mov (.const (.slice none 0 0)))])
 (.seq
 (.ops [ow 8 (.bslice 70 1 [(0, (.const (.slice none 0 0)))] 34 1 [(.slice none 0 0)]), om 3 8])
 (.seq
 (.seq
 (.ops [ow 4 (.mov (kc 0))])
 (.block 0
 (.loop
 (.seq
 (.seq
 (.ops [om 9 4, om 10 0, ow 11 (.bin .lss 3 (tm 9) (tm 10))])
 (.ite (tm 11) .skip
 (.exit 0)))
 (.seq
 (.block 1
 (.seq
 (.ops [ow 5 (.mov (.const (.slice none 0 0)))])
 (.seq
 (.seq
 (.ops [ow 6 (.mov (kc 0))])
 (.block 2
 (.loop
 (.seq
 (.seq
 (.ops [om 14 6, om 15 3, ow 16 (.len false 70 3 (tm 15)), ow 17 (.bin .lss 3 (tm 14) (tm 16))])
 (.ite (tm 17) .skip
 (.exit 2)))
 (.seq
 (.block 3
 (.seq
 (.ops [ow 7 (.mov (kc 0))])
 (.block 4
 (.loop
 (.seq
 (.seq
 (.ops [om 20 7, om 21 3, om 22 6, ow 23 (.iaddr 70 (tm 21) (tm 22) 1), ow 24 (.load 34 (tm 23) none), ow 25 (.call 37 [(tm 24)] 3), ow 26 (.bin .leq 3 (tm 20) (tm 25))])
 (.ite (tm 26) .skip
 (.exit 4)))
 (.seq
 (.block 5
 (.ops [om 29 5, ow 30 (.bslice 34 0 [] 3 1 [(.int .i64 0)]), om 31 3, om 32 6, ow 33 (.iaddr 70 (tm 31) (tm 32) 1), ow 34 (.load 34 (tm 33) none), ow 35 (.append 34 34 (tm 30) (tm 34) 3 1 8 [(.int .i64 0)]), om 36 7, ow 37 (.bslice 34 1 [(0, (tm 36))] 3 1 [(.int .i64 0)]), ow 38 (.append 34 34 (tm 35) (tm 37) 3 1 8 [(.int .i64 0)]), ow 39 (.bslice 70 1 [(0, (tm 38))] 34 1 [(.slice none 0 0)]), ow 40 (.append 70 70 (tm 29) (tm 39) 34 1 24 [(.slice none 0 0)]), om 5 40]))
 (.ops [om 27 7, ow 28 (.bin .add 3 (tm 27) (kc 1)), om 7 28])))))))
 (.ops [om 18 6, ow 19 (.bin .add 3 (tm 18) (kc 1)), om 6 19]))))))
 (.ops [om 41 5, om 3 41]))))
 (.ops [om 12 4, ow 13 (.bin .add 3 (tm 12) (kc 1)), om 4 13]))))))
 (.seq
 (.ops [om 42 3, om 2 42]) .ret))))
theorem fn83 : FnOK Tryz.prog 83 43 [.tmp 2] L83 := ⟨Tryz.f83, Tryz.func83, by kernel_rfl, Tryz.ntmps83, by rw [Tryz.results83], by kernel_rfl⟩
def L84 : LCode :=
 (.seq
 (.ops [ow 2 (.mov (kc 0))])
 (.seq
 (.seq
 (.ops [ow 3 (.mov (kc 0))])
 (.block 0
 (.loop
 (.seq
 (.seq
 (.ops [om 4 3, om 5 0, ow 6 (.len false 119 3 (tm 5)), ow 7 (.bin .lss 3 (tm 4) (tm 6))])
 (.ite (tm 7) .skip
 (.exit 0)))
 (.seq
 (.block 1
 (.seq
 (.ops [om 10 0, om 11 3, ow 12 (.iaddr 119 (tm 10) (tm 11) 1), ow 13 (.load 4 (tm 12) none)])
 (.ite (tm 13)
 (.seq
 (.ops [om 14 3, om 2 14]) .ret) .skip)))
 (.ops [om 8 3, ow 9 (.bin .add 3 (tm 8) (kc 1)), om 3 9]))))))
 (.seq
 (.ops [ow 2 (.mov (kc (-1)))]) .ret)))
theorem fn84 : FnOK Tryz.prog 84 15 [.tmp 2] L84 := ⟨Tryz.f84, Tryz.func84, by kernel_rfl, Tryz.ntmps84, by rw [Tryz.results84], by kernel_rfl⟩
def L85 : LCode :=
 (.seq
 (.ops [ow 2 (.box 25 (tm 0)), ow 4 (.mov (.const (.slice none 0 0)))])
 (.seq
 (.ops [ow 9 (.mslice 119 (kc 3125) (kc 3125) 4 1 1 [(.bool false)]), om 5 9])
 (.seq
 (.seq
 (.ops [ow 6 (.mov (kc 0))])
 (.block 0
 (.loop
 (.seq
 (.seq
 (.ops [om 10 6, om 11 1, ow 12 (.len false 34 3 (tm 11)), ow 13 (.bin .lss 3 (tm 10) (tm 12))])
 (.ite (tm 13) .skip
 (.exit 0)))
 (.seq
 (.block 1
 (.seq
 (.dops [(ow 16 (.load 25 (tm 2) (some 3)), []), (ow 17 (.faddr 25 (tm 2) 2 2), []), (ow 18 (.load 23 (tm 17) none), [1]), (om 19 1, []), (om 20 6, []), (ow 21 (.iaddr 34 (tm 19) (tm 20) 1), [3, 4]), (ow 22 (.load 3 (tm 21) none), [5]), (ow 23 (.iaddr 23 (tm 18) (tm 22) 2), [2, 6]), (ow 24 (.load 141 (tm 23) (some 2)), [7]), (ow 25 (.call 117 [(tm 16), (tm 24)] 119), [0, 8]), (om 7 25, [9, 9, 0, 1, 2, 3, 4, 5, 6, 7, 8, 9])])
 (.seq
 (.seq
 (.ops [ow 8 (.mov (kc 0))])
 (.block 2
 (.loop
 (.seq
 (.seq
 (.ops [om 26 8, ow 27 (.bin .lss 3 (tm 26) (kc 3125))])
 (.ite (tm 27) .skip
 (.exit 2)))
 (.seq
 (.block 3
 (.ops [om 30 7, om 31 8, om 32 7, om 33 8, ow 34 (.iaddr 119 (tm 32) (tm 33) 1), ow 35 (.load 4 (tm 34) none), om 36 35, oy 37 36 (.mov (tm 6)), oy 38 36 (.bin .eql 3 (tm 37) (kc 0)), oy 39 36 (.mov (tm 38)), oz 40 39 (.mov (tm 5)), oz 41 39 (.mov (tm 8)), oz 42 39 (.iaddr 119 (tm 40) (tm 41) 1), oz 43 39 (.load 4 (tm 42) none), oy 44 36 (.pick (tm 39) (.const (.bool true)) (tm 43)), ow 45 (.pick (tm 36) (tm 44) (.const (.bool false))), ow 46 (.iaddr 119 (tm 30) (tm 31) 1), ⟨none, none, .store 4 (tm 46) (tm 45) 1⟩]))
 (.ops [om 28 8, ow 29 (.bin .add 3 (tm 28) (kc 1)), om 8 29]))))))
 (.ops [om 47 7, om 5 47]))))
 (.ops [om 14 6, ow 15 (.bin .add 3 (tm 14) (kc 1)), om 6 15]))))))
 (.seq
 (.ops [om 48 5, om 4 48]) .ret))))
theorem fn85 : FnOK Tryz.prog 85 49 [.tmp 4] L85 := ⟨Tryz.f85, Tryz.func85, by kernel_rfl, Tryz.ntmps85, by rw [Tryz.results85], by kernel_rfl⟩
def L101 : LCode :=
 (.seq
 (.ops [ow 4 (.mov (kc 0))])
 (.seq
 (.ops [ow 5 (.mov (kc 0))])
 (.seq
 (.seq
 (.ops [om 6 1, om 7 0, ow 8 (.call 130 [(tm 6), (tm 7)] 3), ow 9 (.bin .geq 3 (tm 8) (kc 0))])
 (.ite (tm 9)
 (.ops [ow 5 (.mov (kc 5))]) .skip))
 (.seq
 (.seq
 (.ops [om 10 0, ow 11 (.call 131 [(tm 10)] 4), ow 12 (.un .not (tm 11))])
 (.ite (tm 12)
 (.ops [ow 5 (.mov (kc 6))]) .skip))
 (.seq
 (.ops [om 13 5, om 4 13]) .ret)))))
theorem fn101 : FnOK Tryz.prog 101 14 [.tmp 4] L101 := ⟨Tryz.f101, Tryz.func101, by kernel_rfl, Tryz.ntmps101, by rw [Tryz.results101], by kernel_rfl⟩
def L102 : LCode :=
 (.seq
 (.ops [ow 2 (.box 25 (tm 0)), ow 4 (.mov (kc 0))])
 (.seq
 (.seq
 (.ops [om 7 1, ow 8 (.len false 123 3 (tm 7)), ow 9 (.call 40 [(tm 8), (kc 1), (kc 6)] 4), ow 10 (.un .not (tm 9))])
 (.ite (tm 10)
 (.seq
 (.ops [ow 4 (.mov (kc 3))]) .ret) .skip))
 (.seq
 (.seq
 (.ops [ow 5 (.mov (kc 0))])
 (.block 0
 (.loop
 (.seq
 (.seq
 (.ops [om 11 5, om 12 1, ow 13 (.len false 123 3 (tm 12)), ow 14 (.bin .lss 3 (tm 11) (tm 13))])
 (.ite (tm 14) .skip
 (.exit 0)))
 (.seq
 (.block 1
 (.seq
 (.seq
 (.ops [om 17 1, om 18 5, ow 19 (.iaddr 123 (tm 17) (tm 18) 3), ow 20 (.faddr 131 (tm 19) 0 0), ow 21 (.load 5 (tm 20) none), ow 22 (.toInt .i64 5 3 (tm 21)), ow 23 (.call 40 [(tm 22), (kc 97), (kc 122)] 4), ow 24 (.un .not (tm 23))])
 (.ite (tm 24)
 (.seq
 (.ops [ow 4 (.mov (kc 6))]) .ret) .skip))
 (.seq
 (.seq
 (.ops [ow 6 (.mov (kc 0))])
 (.block 2
 (.loop
 (.seq
 (.seq
 (.ops [om 25 6, om 26 5, ow 27 (.bin .lss 3 (tm 25) (tm 26))])
 (.ite (tm 27) .skip
 (.exit 2)))
 (.seq
 (.block 3
 (.seq
 (.dops [(om 30 1, []), (om 31 6, []), (ow 32 (.iaddr 123 (tm 30) (tm 31) 3), [0, 1]), (ow 33 (.faddr 131 (tm 32) 0 0), [2]), (ow 34 (.load 5 (tm 33) none), [3]), (om 35 1, []), (om 36 5, []), (ow 37 (.iaddr 123 (tm 35) (tm 36) 3), [5, 6]), (ow 38 (.faddr 131 (tm 37) 0 0), [7]), (ow 39 (.load 5 (tm 38) none), [8]), (ow 40 (.bin .eql 5 (tm 34) (tm 39)), [4, 9])])
 (.ite (tm 40)
 (.seq
 (.ops [ow 4 (.mov (kc 5))]) .ret) .skip)))
 (.ops [om 28 6, ow 29 (.bin .add 3 (tm 28) (kc 1)), om 6 29]))))))
 (.seq
 (.seq
 (.dops [(om 41 1, []), (om 42 5, []), (ow 43 (.iaddr 123 (tm 41) (tm 42) 3), [0, 1]), (ow 44 (.faddr 131 (tm 43) 1 1), [2]), (ow 45 (.load 3 (tm 44) none), [3]), (ow 46 (.faddr 25 (tm 2) 0 0), []), (ow 47 (.load 3 (tm 46) none), [5]), (ow 48 (.call 132 [(tm 47)] 3), [6]), (ow 49 (.call 40 [(tm 45), (kc 0), (tm 48)] 4), [4, 7, 7]), (ow 50 (.un .not (tm 49)), [8])])
 (.ite (tm 50)
 (.seq
 (.ops [ow 4 (.mov (kc 7))]) .ret) .skip))
 (.seq
 (.ops [om 51 1, om 52 5, ow 53 (.iaddr 123 (tm 51) (tm 52) 3), ow 54 (.faddr 131 (tm 53) 1 1), ow 55 (.load 3 (tm 54) none), ow 56 (.bin .eql 3 (tm 55) (kc 0)), om 57 56, oy 58 57 (.mov (tm 1)), oy 59 57 (.mov (tm 5)), oy 60 57 (.iaddr 123 (tm 58) (tm 59) 3), oy 61 57 (.faddr 131 (tm 60) 2 2), oy 62 57 (.load 4 (tm 61) none), oy 63 57 (.un .not (tm 62)), ow 64 (.pick (tm 57) (tm 63) (.const (.bool false)))])
 (.ite (tm 64)
 (.seq
 (.ops [ow 4 (.mov (kc 2))]) .ret) .skip))))))
 (.ops [om 15 5, ow 16 (.bin .add 3 (tm 15) (kc 1)), om 5 16]))))))
 (.seq
 (.ops [ow 4 (.mov (kc 0))]) .ret))))
theorem fn102 : FnOK Tryz.prog 102 65 [.tmp 4] L102 := ⟨Tryz.f102, Tryz.func102, by kernel_rfl, Tryz.ntmps102, by rw [Tryz.results102], by kernel_rfl⟩
def L103 : LCode :=
 (.seq
 (.ops [ow 2 (.box 25 (tm 0)), ow 3 (.box 141 (tm 1)), ow 4 (.mov (kc 0))])
 (.seq
 (.seq
 (.ops [ow 6 (.faddr 141 (tm 3) 0 0), ow 7 (.load 3 (tm 6) none), ow 8 (.faddr 25 (tm 2) 1 1), ow 9 (.load 22 (tm 8) none), ow 10 (.len false 22 3 (tm 9)), ow 11 (.bin .sub 3 (tm 10) (kc 1)), ow 12 (.call 40 [(tm 7), (kc 0), (tm 11)] 4), ow 13 (.un .not (tm 12))])
 (.ite (tm 13)
 (.seq
 (.ops [ow 4 (.mov (kc 4))]) .ret) .skip))
 (.seq
 (.seq
 (.ops [ow 14 (.faddr 141 (tm 3) 1 1), ow 15 (.load 9 (tm 14) none), ow 16 (.len true 9 3 (tm 15)), ow 17 (.call 40 [(tm 16), (kc 1), (kc 5)] 4), ow 18 (.un .not (tm 17))])
 (.ite (tm 18)
 (.seq
 (.ops [ow 4 (.mov (kc 3))]) .ret) .skip))
 (.seq
 (.seq
 (.ops [ow 5 (.mov (kc 0))])
 (.block 0
 (.loop
 (.seq
 (.seq
 (.ops [om 19 5, ow 20 (.faddr 141 (tm 3) 1 1), ow 21 (.load 9 (tm 20) none), ow 22 (.len true 9 3 (tm 21)), ow 23 (.bin .lss 3 (tm 19) (tm 22))])
 (.ite (tm 23) .skip
 (.exit 0)))
 (.seq
 (.block 1
 (.seq
 (.dops [(ow 26 (.faddr 25 (tm 2) 1 1), []), (ow 27 (.load 22 (tm 26) none), [0]), (ow 28 (.faddr 141 (tm 3) 0 0), []), (ow 29 (.load 3 (tm 28) none), [2]), (ow 30 (.iaddr 22 (tm 27) (tm 29) 2), [1, 3]), (ow 31 (.load 125 (tm 30) (some 2)), [4]), (ow 32 (.faddr 141 (tm 3) 1 1), []), (ow 33 (.load 9 (tm 32) none), [6]), (om 34 5, []), (ow 35 (.indexS 9 (tm 33) (tm 34)), [7, 8]), (ow 36 (.call 133 [(tm 31), (tm 35)] 3), [5, 9]), (ow 37 (.bin .lss 3 (tm 36) (kc 0)), [10])])
 (.ite (tm 37)
 (.seq
 (.ops [ow 4 (.mov (kc 6))]) .ret) .skip)))
 (.ops [om 24 5, ow 25 (.bin .add 3 (tm 24) (kc 1)), om 5 25]))))))
 (.seq
 (.ops [ow 4 (.mov (kc 0))]) .ret)))))
theorem fn103 : FnOK Tryz.prog 103 38 [.tmp 4] L103 := ⟨Tryz.f103, Tryz.func103, by kernel_rfl, Tryz.ntmps103, by rw [Tryz.results103], by kernel_rfl⟩
def L104 : LCode :=
 (.seq
 (.ops [ow 3 (.box 43 (tm 0)), ow 6 (.mov (kc 0))])
 (.seq
 (.seq
 (.ops [ow 7 (.faddr 43 (tm 3) 0 0), ow 8 (.load 3 (tm 7) none), om 9 1, om 10 2, ow 11 (.call 40 [(tm 8), (tm 9), (tm 10)] 4), ow 12 (.un .not (tm 11)), om 13 12, oz 14 13 (.faddr 43 (tm 3) 1 1), oz 15 13 (.load 3 (tm 14) none), oz 16 13 (.mov (tm 1)), oz 17 13 (.mov (tm 2)), oz 18 13 (.call 40 [(tm 15), (tm 16), (tm 17)] 4), oz 19 13 (.un .not (tm 18)), ow 20 (.pick (tm 13) (.const (.bool true)) (tm 19))])
 (.ite (tm 20)
 (.seq
 (.ops [ow 6 (.mov (kc 7))]) .ret) .skip))
 (.seq
 (.seq
 (.ops [ow 21 (.faddr 43 (tm 3) 1 1), ow 22 (.load 3 (tm 21) none), ow 23 (.faddr 43 (tm 3) 0 0), ow 24 (.load 3 (tm 23) none), ow 25 (.bin .lss 3 (tm 22) (tm 24))])
 (.ite (tm 25)
 (.seq
 (.ops [ow 6 (.mov (kc 2))]) .ret) .skip))
 (.seq
 (.ops [ow 6 (.mov (kc 0))]) .ret))))
theorem fn104 : FnOK Tryz.prog 104 26 [.tmp 6] L104 := ⟨Tryz.f104, Tryz.func104, by kernel_rfl, Tryz.ntmps104, by rw [Tryz.results104], by kernel_rfl⟩
def L117 : LCode :=
 (.seq
 (.ops [ow 2 (.box 25 (tm 0)), ow 3 (.box 141 (tm 1)), ow 4 (.mov (.const (.slice none 0 0)))])
 (.seq
 (.ops [ow 12 (.mslice 119 (kc 3125) (kc 3125) 4 1 1 [(.bool false)]), om 5 12])
 (.seq
 (.ops [om 13 5, ow 14 (.iaddr 119 (tm 13) (kc 0) 1), ⟨none, none, .store 4 (tm 14) (.const (.bool true)) 1⟩])
 (.seq
 (.seq
 (.ops [ow 6 (.mov (kc 0))])
 (.block 0
 (.loop
 (.seq
 (.seq
 (.ops [om 15 6, ow 16 (.faddr 141 (tm 3) 1 1), ow 17 (.load 9 (tm 16) none), ow 18 (.len true 9 3 (tm 17)), ow 19 (.bin .lss 3 (tm 15) (tm 18))])
 (.ite (tm 19) .skip
 (.exit 0)))
 (.seq
 (.block 1
 (.seq
 (.ops [ow 22 (.faddr 25 (tm 2) 1 1), ow 23 (.load 22 (tm 22) none), ow 24 (.faddr 141 (tm 3) 0 0), ow 25 (.load 3 (tm 24) none), ow 26 (.iaddr 22 (tm 23) (tm 25) 2), ow 27 (.load 125 (tm 26) (some 2)), ow 7 (.alloc 125 [(.string ⟨#[]⟩), (.slice none 0 0)]), ⟨none, none, .store 125 (tm 7) (tm 27) 2⟩])
 (.seq
 (.dops [(ow 28 (.faddr 125 (tm 7) 1 1), []), (ow 29 (.load 123 (tm 28) none), [0]), (ow 30 (.load 125 (tm 7) (some 2)), []), (ow 31 (.faddr 141 (tm 3) 1 1), []), (ow 32 (.load 9 (tm 31) none), [3]), (om 33 6, []), (ow 34 (.indexS 9 (tm 32) (tm 33)), [4, 5]), (ow 35 (.call 133 [(tm 30), (tm 34)] 3), [2, 6]), (ow 36 (.iaddr 123 (tm 29) (tm 35) 3), [1, 7]), (ow 37 (.load 131 (tm 36) (some 3)), [8]), (ow 8 (.alloc 131 [(.int .u8 0), (.int .i64 0), (.bool false)]), []), (⟨none, none, .store 131 (tm 8) (tm 37) 3⟩, [10, 9, 7, 0, 1, 2, 3, 4, 5, 6, 7, 8, 9, 10])])
 (.seq
 (.ops [ow 38 (.mslice 119 (kc 3125) (kc 3125) 4 1 1 [(.bool false)]), om 9 38])
 (.seq
 (.seq
 (.ops [ow 10 (.mov (kc 0))])
 (.block 2
 (.loop
 (.seq
 (.seq
 (.ops [om 39 10, ow 40 (.bin .lss 3 (tm 39) (kc 3125))])
 (.ite (tm 40) .skip
 (.exit 2)))
 (.seq
 (.block 3
 (.seq
 (.seq
 (.ops [om 43 5, om 44 10, ow 45 (.iaddr 119 (tm 43) (tm 44) 1), ow 46 (.load 4 (tm 45) none), ow 47 (.un .not (tm 46))])
 (.ite (tm 47)
 (.exit 3) .skip))
 (.seq
 (.ops [om 48 9, om 49 10, om 50 9, om 51 10, ow 52 (.iaddr 119 (tm 50) (tm 51) 1), ow 53 (.load 4 (tm 52) none), om 54 53, oz 55 54 (.faddr 131 (tm 8) 2 2), oz 56 54 (.load 4 (tm 55) none), ow 57 (.pick (tm 54) (.const (.bool true)) (tm 56)), ow 58 (.iaddr 119 (tm 48) (tm 49) 1), ⟨none, none, .store 4 (tm 58) (tm 57) 1⟩])
 (.seq
 (.ops [ow 11 (.mov (kc 0))])
 (.block 4
 (.loop
 (.seq
 (.seq
 (.ops [om 59 11, ow 60 (.faddr 25 (tm 2) 0 0), ow 61 (.load 3 (tm 60) none), ow 62 (.bin .lss 3 (tm 59) (tm 61))])
 (.ite (tm 62) .skip
 (.exit 4)))
 (.seq
 (.block 5
 (.seq
 (.ops [ow 65 (.faddr 131 (tm 8) 1 1), ow 66 (.load 3 (tm 65) none), om 67 11, ow 68 (.call 41 [(tm 66), (tm 67)] 4)])
 (.ite (tm 68)
 (.ops [om 69 9, om 70 10, ow 71 (.bin .mul 3 (tm 70) (kc 5)), om 72 11, ow 73 (.bin .add 3 (tm 71) (tm 72)), ow 74 (.bin .add 3 (tm 73) (kc 1)), ow 75 (.iaddr 119 (tm 69) (tm 74) 1), ⟨none, none, .store 4 (tm 75) (.const (.bool true)) 1⟩]) .skip)))
 (.ops [om 63 11, ow 64 (.bin .add 3 (tm 63) (kc 1)), om 11 64])))))))))
 (.ops [om 41 10, ow 42 (.bin .add 3 (tm 41) (kc 1)), om 10 42]))))))
 (.ops [om 76 9, om 5 76]))))))
 (.ops [om 20 6, ow 21 (.bin .add 3 (tm 20) (kc 1)), om 6 21]))))))
 (.seq
 (.ops [om 77 5, om 4 77]) .ret)))))
theorem fn117 : FnOK Tryz.prog 117 78 [.tmp 4] L117 := ⟨Tryz.f117, Tryz.func117, by kernel_rfl, Tryz.ntmps117, by rw [Tryz.results117], by kernel_rfl⟩
def L130 : LCode :=
 (.seq
 (.ops [ow 4 (.mov (kc 0))])
 (.seq
 (.ops [ow 5 (.mov (kc 0))])
 (.seq
 (.block 0
 (.loop
 (.seq
 (.seq
 (.ops [om 6 5, om 7 0, ow 8 (.len false 146 3 (tm 7)), ow 9 (.bin .lss 3 (tm 6) (tm 8)), om 10 9, oy 11 10 (.mov (tm 0)), oy 12 10 (.mov (tm 5)), oy 13 10 (.iaddr 146 (tm 11) (tm 12) 1), oy 14 10 (.load 9 (tm 13) none), oy 15 10 (.mov (tm 1)), oy 16 10 (.bin .neq 9 (tm 14) (tm 15)), ow 17 (.pick (tm 10) (tm 16) (.const (.bool false)))])
 (.ite (tm 17) .skip
 (.exit 0)))
 (.block 1
 (.ops [om 18 5, ow 19 (.bin .add 3 (tm 18) (kc 1)), om 5 19])))))
 (.seq
 (.seq
 (.ops [om 20 5, om 21 0, ow 22 (.len false 146 3 (tm 21)), ow 23 (.bin .eql 3 (tm 20) (tm 22))])
 (.ite (tm 23)
 (.seq
 (.ops [ow 4 (.mov (kc (-1)))]) .ret) .skip))
 (.seq
 (.ops [om 24 5, om 4 24]) .ret)))))
theorem fn130 : FnOK Tryz.prog 130 25 [.tmp 4] L130 := ⟨Tryz.f130, Tryz.func130, by kernel_rfl, Tryz.ntmps130, by rw [Tryz.results130], by kernel_rfl⟩
def L131 : LCode :=
 (.seq
 (.ops [ow 2 (.mov (.const (.bool false)))])
 (.seq
 (.ops [om 6 0, ow 7 (.len true 9 3 (tm 6)), ow 8 (.call 40 [(tm 7), (kc 1), (kc 16)] 4), om 3 8])
 (.seq
 (.seq
 (.ops [ow 4 (.mov (kc 0))])
 (.block 0
 (.loop
 (.seq
 (.seq
 (.ops [om 9 4, om 10 0, ow 11 (.len true 9 3 (tm 10)), ow 12 (.bin .lss 3 (tm 9) (tm 11))])
 (.ite (tm 12) .skip
 (.exit 0)))
 (.seq
 (.block 1
 (.seq
 (.ops [om 15 4, ow 16 (.bin .gtr 3 (tm 15) (kc 0)), om 17 16, oy 18 17 (.mov (tm 0)), oy 19 17 (.mov (tm 4)), oy 20 17 (.indexS 9 (tm 18) (tm 19)), oy 21 17 (.bin .eql 5 (tm 20) (.const (.int .u8 46))), oy 22 17 (.mov (tm 21)), oz 23 22 (.mov (tm 0)), oz 24 22 (.mov (tm 4)), oz 25 22 (.indexS 9 (tm 23) (tm 24)), oz 26 22 (.toInt .i64 5 3 (tm 25)), oz 27 22 (.call 40 [(tm 26), (kc 48), (kc 57)] 4), oy 28 17 (.pick (tm 22) (.const (.bool true)) (tm 27)), ow 29 (.pick (tm 17) (tm 28) (.const (.bool false))), om 5 29])
 (.ops [om 30 3, om 31 30, oy 32 31 (.mov (tm 0)), oy 33 31 (.mov (tm 4)), oy 34 31 (.indexS 9 (tm 32) (tm 33)), oy 35 31 (.toInt .i64 5 3 (tm 34)), oy 36 31 (.call 40 [(tm 35), (kc 97), (kc 122)] 4), oy 37 31 (.mov (tm 36)), oz 38 37 (.mov (tm 5)), oy 39 31 (.pick (tm 37) (.const (.bool true)) (tm 38)), ow 40 (.pick (tm 31) (tm 39) (.const (.bool false))), om 3 40])))
 (.ops [om 13 4, ow 14 (.bin .add 3 (tm 13) (kc 1)), om 4 14]))))))
 (.seq
 (.ops [om 41 3, om 2 41]) .ret))))
theorem fn131 : FnOK Tryz.prog 131 42 [.tmp 2] L131 := ⟨Tryz.f131, Tryz.func131, by kernel_rfl, Tryz.ntmps131, by rw [Tryz.results131], by kernel_rfl⟩
def L132 : LCode :=
 (.seq
 (.ops [ow 2 (.mov (kc 0))])
 (.seq
 (.ops [ow 3 (.mov (kc 0))])
 (.seq
 (.seq
 (.ops [ow 4 (.mov (kc 0))])
 (.block 0
 (.loop
 (.seq
 (.seq
 (.ops [om 5 4, om 6 0, ow 7 (.bin .lss 3 (tm 5) (tm 6))])
 (.ite (tm 7) .skip
 (.exit 0)))
 (.seq
 (.block 1
 (.ops [om 10 3, ow 11 (.bin .mul 3 (kc 2) (tm 10)), ow 12 (.bin .add 3 (tm 11) (kc 1)), om 3 12]))
 (.ops [om 8 4, ow 9 (.bin .add 3 (tm 8) (kc 1)), om 4 9]))))))
 (.seq
 (.ops [om 13 3, om 2 13]) .ret))))
theorem fn132 : FnOK Tryz.prog 132 14 [.tmp 2] L132 := ⟨Tryz.f132, Tryz.func132, by kernel_rfl, Tryz.ntmps132, by rw [Tryz.results132], by kernel_rfl⟩
def L133 : LCode :=
 (.seq
 (.ops [ow 2 (.box 125 (tm 0)), ow 4 (.mov (kc 0))])
 (.seq
 (.seq
 (.ops [ow 5 (.mov (kc 0))])
 (.block 0
 (.loop
 (.seq
 (.seq
 (.ops [om 6 5, ow 7 (.faddr 125 (tm 2) 1 1), ow 8 (.load 123 (tm 7) none), ow 9 (.len false 123 3 (tm 8)), ow 10 (.bin .lss 3 (tm 6) (tm 9))])
 (.ite (tm 10) .skip
 (.exit 0)))
 (.seq
 (.block 1
 (.seq
 (.ops [ow 13 (.faddr 125 (tm 2) 1 1), ow 14 (.load 123 (tm 13) none), om 15 5, ow 16 (.iaddr 123 (tm 14) (tm 15) 3), ow 17 (.faddr 131 (tm 16) 0 0), ow 18 (.load 5 (tm 17) none), om 19 1, ow 20 (.bin .eql 5 (tm 18) (tm 19))])
 (.ite (tm 20)
 (.seq
 (.ops [om 21 5, om 4 21]) .ret) .skip)))
 (.ops [om 11 5, ow 12 (.bin .add 3 (tm 11) (kc 1)), om 5 12]))))))
 (.seq
 (.ops [ow 4 (.mov (kc (-1)))]) .ret)))
theorem fn133 : FnOK Tryz.prog 133 22 [.tmp 4] L133 := ⟨Tryz.f133, Tryz.func133, by kernel_rfl, Tryz.ntmps133, by rw [Tryz.results133], by kernel_rfl⟩
end Go.Px

namespace Go.Px
open Go.Proofs
theorem in_ev (n lo hi : Int) : Ev Tryz.prog 40 [I n, I lo, I hi] (B (decide (lo ≤ n) && decide (n ≤ hi))) := by
  refine Ev.intro fn40 ?_
  refine LWp.sx (gs := []) (hs := []) rfl trivial ?_
  by_cases h : lo ≤ n
  · refine LWp.sx (gs := [(10, true)]) (hs := []) rfl (by simp [h]) ?_
    refine LWp.ret (retT (.inr rfl) (.one (.tmp ?_ rfl)))
    show B _ = B _
    simp [h]
  · refine LWp.sx (gs := [(10, false)]) (hs := []) rfl (by simp [h]) ?_
    refine LWp.ret (retT (.inr rfl) (.one (.tmp ?_ rfl)))
    show B _ = B _
    simp [h]
theorem bit_ev (bits k : Int) (h0 : 0 ≤ bits) (h1 : bits ≤ 9223372036854775807) (hk : k ≤ 9223372036854775807) : Ev Tryz.prog 41 [I bits, I k] (B (bitI bits k)) := by
  refine Ev.intro fn41 ?_
  refine LWp.sx (gs := []) (hs := []) rfl trivial ?_
  refine LWp.seq ?_
  refine LWp.sx (gs := []) (hs := []) rfl trivial ?_
  refine LWp.blockT (fun i : Int => bits / 2 ^ i.toNat = bits / 2 ^ k.toNat) (fun i => el [(0, I (bits / 2 ^ i.toNat)), (1, I k)]) (fun _ => []) (fun _ => []) ?_ ?_
  · refine LWp.loopN (fun i : Int => 0 ≤ i ∧ (i ≤ k ∨ i = 0)) (fun i => el [(0, I (bits / 2 ^ i.toNat)), (1, I k), (5, I i)]) (fun _ => []) (fun _ => []) (fun i => (k - i).toNat) 0 ⟨by omega, by omega⟩
      (Ent.el ⟨by show I bits = I _; simp, rfl, rfl, trivial⟩) ?_
    rintro i ⟨hi0, hi1⟩
    refine LWp.seq (LWp.seq ?_)
    refine LWp.x (gs := []) (hs := []) rfl trivial ?_
    refine LWp.ite rfl (fun hc => ?_) (fun hc => ?_)
    · simp only [decide_eq_true_eq] at hc
      refine LWp.skip ?_
      have hq : 0 ≤ bits / 2 ^ i.toNat := Int.ediv_nonneg h0 (Int.le_of_lt (Int.pow_pos (by omega)))
      have hq2 : bits / 2 ^ i.toNat ≤ bits := Int.ediv_le_self _ h0
      refine LWp.seq (LWp.block ?_)
      refine LWp.x (gs := []) (hs := []) rfl ⟨⟨hq, by omega, by omega⟩, trivial⟩ ?_
      refine LWp.x (gs := []) (hs := []) rfl ⟨by omega, trivial⟩ ?_
      refine ⟨i + 1, ⟨by omega, by omega⟩, by omega, Ent.el ⟨?_, rfl, rfl, trivial⟩⟩
      show I _ = I _
      have hp : (0 : Int) < 2 ^ i.toNat := Int.pow_pos (by omega)
      rw [Int.ediv_ediv, if_neg (fun h => by omega), show (i + 1).toNat = i.toNat + 1 by omega, Int.pow_succ, Int.sub_zero]
    · simp only [decide_eq_false_iff_not] at hc
      refine LWp.exit ⟨i, ?_, Ent.el ⟨rfl, rfl, trivial⟩⟩
      have : i.toNat = k.toNat := by omega
      rw [this]
  · intro i hi
    have hq : 0 ≤ bits / 2 ^ i.toNat := Int.ediv_nonneg h0 (Int.le_of_lt (Int.pow_pos (by omega)))
    refine LWp.sx (gs := []) (hs := []) rfl ⟨⟨hq, by omega⟩, trivial⟩ ?_
    refine LWp.ret (retT (.inr rfl) (.one (.tmp ?_ rfl)))
    show B _ = B _
    rw [hi]; rfl
abbrev bools (l : List Bool) : AV := .sl 1 (l.map fun x => [B x])
theorem least_ev (l : List Bool) : Ev Tryz.prog 84 [bools l] (I (idxF id l 0)) := by
  refine Ev.intro fn84 ?_
  refine LWp.slLen 0 rfl fun ha => ?_
  simp only [List.length_map] at ha
  refine LWp.sx (gs := []) (hs := []) rfl trivial ?_
  refine LWp.seq ?_
  refine LWp.sx (gs := []) (hs := []) rfl trivial ?_
  refine LWp.blockT (fun _ : Unit => idxF id l 0 = -1) (fun _ => el []) (fun _ => []) (fun _ => []) ?_ ?_
  · refine LWp.loopN (fun k : Nat => k ≤ l.length ∧ idxF id l 0 = idxF id (l.drop k) k) (fun k => el [(0, bools l), (3, I k)]) (fun _ => []) (fun _ => []) (fun k => l.length - k) 0 ⟨by omega, rfl⟩
      (Ent.el ⟨rfl, rfl, trivial⟩) ?_
    rintro k ⟨hk, hi⟩
    refine LWp.seq (LWp.seq ?_)
    refine LWp.x (gs := []) (hs := []) rfl trivial ?_
    refine LWp.ite rfl (fun hc => ?_) (fun hc => ?_)
    · simp only [List.length_map, decide_eq_true_eq, Int.ofNat_lt] at hc
      rw [drop_cons (x := l[k]) (by simp), idxF] at hi
      refine LWp.skip (LWp.seq (LWp.block (LWp.seq ?_)))
      refine LWp.x (gs := []) (hs := [.cells [B l[k]]]) rfl (by simp [hc]) ?_
      refine LWp.ite rfl (fun hb => ?_) (fun hb => ?_)
      · refine LWp.sx (gs := []) (hs := []) rfl trivial ?_
        refine LWp.ret (retT (.inr rfl) (.one (.tmp ?_ rfl)))
        show I _ = I _
        rw [hi, hb]; rfl
      · refine LWp.skip ?_
        refine LWp.x (gs := []) (hs := []) rfl ⟨by omega, trivial⟩ ?_
        exact ⟨k + 1, ⟨hc, by rw [hi, hb]; rfl⟩, by omega, Ent.el ⟨rfl, rfl, trivial⟩⟩
    · simp only [List.length_map, decide_eq_false_iff_not, Int.ofNat_lt] at hc
      refine LWp.exit ⟨(), ?_, Ent.el trivial⟩
      rw [hi, drop_nil hc]; rfl
  · intro _ h
    refine LWp.sx (gs := []) (hs := []) rfl trivial ?_
    refine LWp.ret (retT (.inr rfl) (.one (.tmp ?_ rfl)))
    rw [h]; rfl
end Go.Px

namespace Go.Px
open Go.Proofs
abbrev strs (l : List (List UInt8)) : AV := .sl 1 (l.map fun s => [Str s])
theorem inB_not (n lo hi : Int) : (!(decide (lo ≤ n) && decide (n ≤ hi))) = beyondB lo hi [n] := by
  rw [Bool.eq_iff_iff]; simp [beyondB]
theorem rname_ev (l : List UInt8) (hl : l.length ≤ 9223372036854775807) : Ev Tryz.prog 131 [Str l] (B (nameB l)) := by
  refine Ev.intro fn131 ?_
  refine LWp.sx (gs := []) (hs := []) rfl trivial ?_
  refine LWp.sx (gs := []) (hs := [.ret (B (decide (1 ≤ (l.length : Int)) && decide ((l.length : Int) ≤ 16)))]) rfl ⟨in_ev _ 1 16, trivial⟩ ?_
  refine LWp.seq (LWp.seq ?_)
  refine LWp.x (gs := []) (hs := []) rfl trivial ?_
  generalize hF : (decide (1 ≤ (l.length : Int)) && decide ((l.length : Int) ≤ 16)) = F
  have hnb : nameB l = (allN l 0 && F) := by
    unfold nameB
    rw [← hF]
    congr 1
    rw [Bool.eq_iff_iff]; simp; omega
  refine LWp.blockT (fun _ : Unit => True) (fun _ => el [(3, B (nameB l))]) (fun _ => []) (fun _ => []) ?_ ?_
  · refine LWp.loopN (X := Nat × Bool) (fun x => x.1 ≤ l.length ∧ nameB l = (allN (l.drop x.1) x.1 && x.2)) (fun x => el [(0, Str l), (3, B x.2), (4, I x.1)]) (fun _ => []) (fun _ => []) (fun x => l.length - x.1) (0, F) ⟨by simp, hnb⟩
      (Ent.el ⟨rfl, rfl, rfl, trivial⟩) ?_
    rintro ⟨k, f⟩ ⟨hk, hi⟩
    simp only at hk hi ⊢
    refine LWp.seq (LWp.seq ?_)
    refine LWp.x (gs := []) (hs := []) rfl trivial ?_
    refine LWp.ite rfl (fun hc => ?_) (fun hc => ?_)
    · simp only [decide_eq_true_eq] at hc
      have hc' : k < l.length := by have : ((k : Int) < (l.length : Int)) := hc; omega
      obtain ⟨c, hx⟩ := ex_get hc'
      rw [drop_cons hx, allN] at hi
      have hby : (⟨l.toArray⟩ : ByteArray).data.toList[((k : Nat) : Int).toNat]? = some c := by simpa using hx
      have hco : ∀ m : Int, IntKind.i64.wrap ((c.toNat : Nat) : Int) = c.toNat := by
        intro _
        exact i64_wrap (by omega) (by have := c.toNat_lt; omega)
      refine LWp.skip ?_
      refine LWp.blockX (fun _ : Unit => True) (fun _ => el [(0, Str l), (3, B (f && okc k c.toNat)), (4, I k)]) (fun _ => []) (fun _ => []) ?_ ?_
      · refine LWp.cutX (fun _ : Unit => True) (fun _ => el [(0, Str l), (3, B f), (4, I k), (5, B (decide (0 < k) && (c.toNat == 46 || (decide (48 ≤ c.toNat) && decide (c.toNat ≤ 57)))))]) (fun _ => []) (fun _ => []) ?_ ?_
        · by_cases h0 : 0 < k
          · by_cases h1 : c.toNat = 46
            · refine LWp.x (gs := [(17, true), (22, true)]) (hs := [.byte c]) rfl (by simp [h0, h1, hx]) ?_
              exact ⟨(), trivial, Ent.el ⟨rfl, rfl, rfl, by show B _ = B _; simp [h0, h1], trivial⟩⟩
            · have h1' : ¬ ((c.toNat : Int) = 46) := by omega
              refine LWp.x (gs := [(17, true), (22, false)]) (hs := [.byte c, .byte c, .ret (B (decide ((48 : Int) ≤ c.toNat) && decide ((c.toNat : Int) ≤ 57)))]) rfl (by simp [h0, h1', hx]; exact ⟨hco 0, in_ev _ 48 57⟩) ?_
              refine ⟨(), trivial, Ent.el ⟨rfl, rfl, rfl, ?_, trivial⟩⟩
              show B _ = B _
              have e : (decide ((48 : Int) ≤ c.toNat) && decide ((c.toNat : Int) ≤ 57)) = (decide (48 ≤ c.toNat) && decide (c.toNat ≤ 57)) := by rw [Bool.eq_iff_iff]; simp; omega
              rw [e]; simp [h0, h1]
          · have h0' : k = 0 := by omega
            subst h0'
            refine LWp.x (gs := [(17, false)]) (hs := []) rfl (by simp) ?_
            exact ⟨(), trivial, Ent.el ⟨rfl, rfl, rfl, by show B _ = B _; simp, trivial⟩⟩
        intro _ _
        generalize hg : (decide (0 < k) && (c.toNat == 46 || (decide (48 ≤ c.toNat) && decide (c.toNat ≤ 57)))) = g
        have hok : okc k c.toNat = ((decide (97 ≤ c.toNat) && decide (c.toNat ≤ 122)) || g) := by rw [← hg]; rfl
        cases f with
        | false =>
          refine LWp.x (gs := [(31, false)]) (hs := []) rfl (by simp) ?_
          exact ⟨(), trivial, Ent.el ⟨rfl, by show B _ = B _; simp, rfl, trivial⟩⟩
        | true =>
          have e : (decide ((97 : Int) ≤ c.toNat) && decide ((c.toNat : Int) ≤ 122)) = (decide (97 ≤ c.toNat) && decide (c.toNat ≤ 122)) := by rw [Bool.eq_iff_iff]; simp; omega
          rw [← e] at hok
          generalize hq : (decide ((97 : Int) ≤ c.toNat) && decide ((c.toNat : Int) ≤ 122)) = q at hok
          have hin : Ev Tryz.prog 40 [I c.toNat, I 97, I 122] (B q) := by rw [← hq]; exact in_ev _ 97 122
          cases q with
          | true =>
            refine LWp.x (gs := [(31, true), (37, true)]) (hs := [.byte c, .ret (B true)]) rfl (by simp [hx]; exact ⟨hco 0, hin⟩) ?_
            exact ⟨(), trivial, Ent.el ⟨rfl, by show B _ = B _; simp [hok], rfl, trivial⟩⟩
          | false =>
            refine LWp.x (gs := [(31, true), (37, false)]) (hs := [.byte c, .ret (B false)]) rfl (by simp [hx]; exact ⟨hco 0, hin⟩) ?_
            exact ⟨(), trivial, Ent.el ⟨rfl, by show B _ = B _; simp [hok], rfl, trivial⟩⟩
      intro _ _
      refine LWp.x (gs := []) (hs := []) rfl ⟨by omega, trivial⟩ ?_
      refine ⟨(k + 1, f && okc k c.toNat), ⟨hc', ?_⟩, by simp only; omega, Ent.el ⟨rfl, rfl, rfl, trivial⟩⟩
      rw [hi]
      cases f <;> cases okc k c.toNat <;> simp
    · simp only [decide_eq_false_iff_not] at hc
      have hc' : ¬ k < l.length := by have : ¬ ((k : Int) < (l.length : Int)) := hc; omega
      have hf : nameB l = f := by rw [hi, drop_nil hc']; simp [allN]
      exact LWp.exit ⟨(), trivial, Ent.el ⟨by rw [hf]; rfl, trivial⟩⟩
  · intro _ _
    refine LWp.sx (gs := []) (hs := []) rfl trivial ?_
    refine LWp.ret (retT (.inr rfl) (.one (.tmp ?_ rfl)))
    rfl
theorem where_ev (l : List (List UInt8)) (s : List UInt8) : Ev Tryz.prog 130 [strs l, Str s] (I (idxF (fun x => x == s) l 0)) := by
  refine Ev.intro fn130 ?_
  refine LWp.slLen 0 rfl fun ha => ?_
  simp only [List.length_map] at ha
  refine LWp.sx (gs := []) (hs := []) rfl trivial ?_
  refine LWp.sx (gs := []) (hs := []) rfl trivial ?_
  refine LWp.blockX (fun k : Nat => k ≤ l.length ∧ idxF (fun x => x == s) l 0 = if k = l.length then -1 else (k : Int)) (fun k => el [(0, strs l), (5, I k)]) (fun _ => []) (fun _ => []) ?_ ?_
  · refine LWp.loopN (fun k : Nat => k ≤ l.length ∧ idxF (fun x => x == s) l 0 = idxF (fun x => x == s) (l.drop k) k) (fun k => el [(0, strs l), (1, Str s), (5, I k)]) (fun _ => []) (fun _ => []) (fun k => l.length - k) 0 ⟨by omega, rfl⟩
      (Ent.el ⟨rfl, rfl, rfl, trivial⟩) ?_
    rintro k ⟨hk, hi⟩
    refine LWp.seq (LWp.seq ?_)
    by_cases hc : k < l.length
    · obtain ⟨x, hx⟩ := ex_get hc
      rw [drop_cons hx, idxF] at hi
      refine LWp.x (gs := [(10, true)]) (hs := [.cells [Str x]]) rfl (by simp [hc, (List.getElem?_eq_some_iff.1 hx).2]) ?_
      refine LWp.ite rfl (fun hb => ?_) (fun hb => ?_)
      · have hne : ¬ ((x == s) = true) := by
          have hb : (!((⟨x.toArray⟩ : ByteArray).toList == (⟨s.toArray⟩ : ByteArray).toList)) = true := hb
          intro h
          rw [eq_of_beq h] at hb
          simp at hb
        rw [if_neg hne] at hi
        refine LWp.skip (LWp.block ?_)
        refine LWp.x (gs := []) (hs := []) rfl ⟨by omega, trivial⟩ ?_
        exact ⟨k + 1, ⟨hc, hi⟩, by omega, Ent.el ⟨rfl, rfl, rfl, trivial⟩⟩
      · have heq : (x == s) = true := by
          have hb : (!((⟨x.toArray⟩ : ByteArray).toList == (⟨s.toArray⟩ : ByteArray).toList)) = false := hb
          simp at hb
          simpa using hb
        rw [if_pos heq] at hi
        exact LWp.exit ⟨k, ⟨hk, by rw [hi, if_neg (by omega)]⟩, Ent.el ⟨rfl, rfl, trivial⟩⟩
    · rw [drop_nil hc] at hi
      refine LWp.x (gs := [(10, false)]) (hs := []) rfl (by simp [hc]) ?_
      refine LWp.ite (b := false) rfl (fun hb => by cases hb) (fun hb => ?_)
      exact LWp.exit ⟨k, ⟨hk, by rw [hi, if_pos (by omega)]; rfl⟩, Ent.el ⟨rfl, rfl, trivial⟩⟩
  · rintro k ⟨hk, hi⟩
    refine LWp.seq (LWp.seq ?_)
    refine LWp.x (gs := []) (hs := []) rfl trivial ?_
    refine LWp.ite rfl (fun hb => ?_) (fun hb => ?_)
    · simp only [List.length_map, beq_iff_eq, Int.natCast_inj] at hb
      refine LWp.sx (gs := []) (hs := []) rfl trivial ?_
      refine LWp.ret (retT (.inr rfl) (.one (.tmp ?_ rfl)))
      rw [hi, if_pos hb]; rfl
    · simp only [List.length_map, beq_eq_false_iff_ne, ne_eq, Int.natCast_inj] at hb
      refine LWp.skip ?_
      refine LWp.sx (gs := []) (hs := []) rfl trivial ?_
      refine LWp.ret (retT (.inr rfl) (.one (.tmp ?_ rfl)))
      rw [hi, if_neg hb]; rfl
def freshE (s : List UInt8) (l : List (List UInt8)) : Int := if nameB s = true then (if l.any (fun x => x == s) = true then 5 else 0) else 6
theorem fresh_ev (s : List UInt8) (hl : s.length ≤ 9223372036854775807) (l : List (List UInt8)) : Ev Tryz.prog 101 [Str s, strs l] (I (freshE s l)) := by
  refine Ev.intro fn101 ?_
  refine LWp.sx (gs := []) (hs := []) rfl trivial ?_
  refine LWp.sx (gs := []) (hs := []) rfl trivial ?_
  refine LWp.cutX (fun _ : Unit => True) (fun _ => el [(0, Str s), (5, I (if l.any (fun x => x == s) = true then 5 else 0))]) (fun _ => []) (fun _ => []) ?_ ?_
  · refine LWp.sx (gs := []) (hs := [.ret (I (idxF (fun x => x == s) l 0))]) rfl ⟨where_ev l s, trivial⟩ ?_
    have hg := idxF_ge (fun x => x == s) l 0 (by omega)
    refine LWp.ite rfl (fun hb => ?_) (fun hb => ?_)
    · rw [hg] at hb
      refine LWp.x (gs := []) (hs := []) rfl trivial ?_
      exact ⟨(), trivial, Ent.el ⟨rfl, by rw [hb]; rfl, trivial⟩⟩
    · rw [hg] at hb
      exact LWp.skip ⟨(), trivial, Ent.el ⟨rfl, by rw [hb]; rfl, trivial⟩⟩
  intro _ _
  refine LWp.cutX (fun _ : Unit => True) (fun _ => el [(5, I (freshE s l))]) (fun _ => []) (fun _ => []) ?_ ?_
  · refine LWp.sx (gs := []) (hs := [.ret (B (nameB s))]) rfl ⟨rname_ev s hl, trivial⟩ ?_
    refine LWp.ite rfl (fun hb => ?_) (fun hb => ?_)
    · simp only [Bool.not_eq_true'] at hb
      refine LWp.x (gs := []) (hs := []) rfl trivial ?_
      exact ⟨(), trivial, Ent.el ⟨by simp only [freshE, hb, Bool.false_eq_true, if_false]; rfl, trivial⟩⟩
    · simp only [Bool.not_eq_false'] at hb
      exact LWp.skip ⟨(), trivial, Ent.el ⟨by simp only [freshE, hb, if_true]; rfl, trivial⟩⟩
  intro _ _
  refine LWp.sx (gs := []) (hs := []) rfl trivial ?_
  refine LWp.ret (retT (.inr rfl) (.one (.tmp ?_ rfl)))
  rfl
theorem all_ev (n : Int) (h0 : 0 ≤ n) (h1 : n < 62) : Ev Tryz.prog 132 [I n] (I (2 ^ n.toNat - 1)) := by
  refine Ev.intro fn132 ?_
  refine LWp.sx (gs := []) (hs := []) rfl trivial ?_
  refine LWp.sx (gs := []) (hs := []) rfl trivial ?_
  refine LWp.seq (LWp.seq ?_)
  refine LWp.x (gs := []) (hs := []) rfl trivial ?_
  refine LWp.blockT (fun _ : Unit => True) (fun _ => el [(3, I (2 ^ n.toNat - 1))]) (fun _ => []) (fun _ => []) ?_ ?_
  · refine LWp.loopN (fun k : Nat => k ≤ n.toNat) (fun k => el [(0, I n), (3, I (2 ^ k - 1)), (4, I k)]) (fun _ => []) (fun _ => []) (fun k => n.toNat - k) 0 (by omega)
      (Ent.el ⟨rfl, rfl, rfl, trivial⟩) ?_
    intro k hk
    have hp := pow2_le (k := k) (by omega)
    have hp0 : (0 : Int) < 2 ^ k := Int.pow_pos (by omega)
    refine LWp.seq (LWp.seq ?_)
    refine LWp.x (gs := []) (hs := []) rfl trivial ?_
    refine LWp.ite rfl (fun hc => ?_) (fun hc => ?_)
    · simp only [decide_eq_true_eq] at hc
      refine LWp.skip (LWp.seq (LWp.block ?_))
      refine LWp.x (gs := []) (hs := []) rfl ⟨by omega, by omega, trivial⟩ ?_
      refine LWp.x (gs := []) (hs := []) rfl ⟨by omega, trivial⟩ ?_
      refine ⟨k + 1, by omega, by omega, Ent.el ⟨rfl, ?_, rfl, trivial⟩⟩
      show I _ = I _
      congr 2
      rw [Int.pow_succ]; omega
    · simp only [decide_eq_false_iff_not] at hc
      refine LWp.exit ⟨(), trivial, Ent.el ⟨?_, trivial⟩⟩
      rw [show n.toNat = k by omega]; rfl
  · intro _ _
    refine LWp.sx (gs := []) (hs := []) rfl trivial ?_
    refine LWp.ret (retT (.inr rfl) (.one (.tmp ?_ rfl)))
    rfl
theorem rletter_ev (a : Alph) (c : Int) (hl : a.ls.length ≤ 1000) : Ev Tryz.prog 133 [.agg a.enc, U c] (I (indexC a.ls c)) := by
  refine Ev.intro fn133 ?_
  refine LWp.sx (gs := []) (hs := [.ice]) rfl ⟨⟨rfl, rfl⟩, trivial⟩ ?_
  refine LWp.seq (LWp.seq ?_)
  refine LWp.x (gs := []) (hs := []) rfl trivial ?_
  refine LWp.blockT (fun _ : Unit => indexC a.ls c = -1) (fun _ => el []) (fun _ => []) (fun _ => []) ?_ ?_
  · refine LWp.loopN (fun k : Nat => k ≤ a.ls.length ∧ indexC a.ls c = idxF (fun x => x.c == c) (a.ls.drop k) k) (fun k => el [(1, U c), (2, .pi a.enc), (5, I k)]) (fun _ => []) (fun _ => []) (fun k => a.ls.length - k) 0 ⟨by omega, rfl⟩
      (Ent.el ⟨rfl, rfl, rfl, trivial⟩) ?_
    rintro k ⟨hk, hi⟩
    refine LWp.seq (LWp.seq ?_)
    refine LWp.x (gs := []) (hs := []) rfl trivial ?_
    refine LWp.ite rfl (fun hc => ?_) (fun hc => ?_)
    · simp only [List.length_map, decide_eq_true_eq, Int.ofNat_lt] at hc
      obtain ⟨x, hx⟩ := ex_get hc
      rw [drop_cons hx, idxF] at hi
      refine LWp.skip (LWp.seq (LWp.block ?_))
      refine LWp.seq ?_
      refine LWp.x (gs := []) (hs := [.cells x.enc]) rfl ⟨⟨by omega, by simp [hx]⟩, trivial⟩ ?_
      refine LWp.ite rfl (fun hb => ?_) (fun hb => ?_)
      · refine LWp.sx (gs := []) (hs := []) rfl trivial ?_
        refine LWp.ret (retT (.inr rfl) (.one (.tmp ?_ rfl)))
        rw [hi, if_pos hb]; rfl
      · rw [if_neg (by rw [hb]; simp)] at hi
        refine LWp.skip ?_
        refine LWp.x (gs := []) (hs := []) rfl ⟨by omega, trivial⟩ ?_
        exact ⟨k + 1, ⟨hc, hi⟩, by omega, Ent.el ⟨rfl, rfl, rfl, trivial⟩⟩
    · simp only [List.length_map, decide_eq_false_iff_not, Int.ofNat_lt] at hc
      rw [drop_nil hc] at hi
      exact LWp.exit ⟨(), hi, Ent.el trivial⟩
  · intro _ h
    refine LWp.sx (gs := []) (hs := []) rfl trivial ?_
    refine LWp.ret (retT (.inr rfl) (.one (.tmp ?_ rfl)))
    rw [h]; rfl
end Go.Px

namespace Go.Px
open Go.Proofs
def lettersE (n : Int) (l : List Letter) : Int := if beyondB 1 6 [(l.length : Int)] = true then 3 else (failF (letterErr n l) l.length 0).2
theorem failF_step {f : Nat → Int} {n k : Nat} (h : k < n) : (failF f (n - k) k) = if f k = 0 then failF f (n - (k + 1)) (k + 1) else ((k : Int), f k) := by
  rw [show n - k = (n - (k + 1)) + 1 by omega, failF]
theorem letters_ev (b : Book) (h0 : 0 ≤ b.n) (h1 : b.n < 62) (l : List Letter) (hw : ∀ x ∈ l, x.wf) : Ev Tryz.prog 102 [.agg b.enc, letters l] (I (lettersE b.n l)) := by
  refine Ev.intro fn102 ?_
  refine LWp.slLen 1 rfl fun hll => ?_
  simp only [List.length_map] at hll
  refine LWp.sx (gs := []) (hs := [.ice]) rfl ⟨⟨rfl, rfl⟩, trivial⟩ ?_
  refine LWp.seq (LWp.seq ?_)
  have hin := in_ev ((l.map Letter.enc).length : Int) 1 6
  refine LWp.x (gs := []) (hs := [.ret (B (decide (1 ≤ ((l.map Letter.enc).length : Int)) && decide (((l.map Letter.enc).length : Int) ≤ 6)))]) rfl ⟨hin, trivial⟩ ?_
  refine LWp.ite rfl (fun hc => ?_) (fun hc => ?_)
  · rw [inB_not, List.length_map] at hc
    refine LWp.sx (gs := []) (hs := []) rfl trivial ?_
    refine LWp.ret (retT (.inr rfl) (.one (.tmp ?_ rfl)))
    show I _ = I _
    simp only [lettersE, hc, if_true]
  rw [inB_not, List.length_map] at hc
  have hL : lettersE b.n l = (failF (letterErr b.n l) l.length 0).2 := by simp only [lettersE, hc, if_false, Bool.false_eq_true]
  rw [hL]
  refine LWp.skip ?_
  refine LWp.seq (LWp.seq ?_)
  refine LWp.x (gs := []) (hs := []) rfl trivial ?_
  refine LWp.blockT (fun _ : Unit => (failF (letterErr b.n l) l.length 0).2 = 0) (fun _ => el []) (fun _ => []) (fun _ => []) ?_ ?_
  · refine LWp.loopN (fun k : Nat => k ≤ l.length ∧ failF (letterErr b.n l) l.length 0 = failF (letterErr b.n l) (l.length - k) k) (fun k => el [(1, letters l), (2, .pi b.enc), (5, I k)]) (fun _ => []) (fun _ => []) (fun k => l.length - k) 0 ⟨by omega, rfl⟩
      (Ent.el ⟨rfl, rfl, rfl, trivial⟩) ?_
    rintro k ⟨hk, hi⟩
    refine LWp.seq (LWp.seq ?_)
    refine LWp.x (gs := []) (hs := []) rfl trivial ?_
    refine LWp.ite rfl (fun hc => ?_) (fun hc => ?_)
    · simp only [List.length_map, decide_eq_true_eq, Int.ofNat_lt] at hc
      obtain ⟨x, hx⟩ := ex_get hc
      obtain ⟨w0, w1, w2, w3⟩ := hw x (List.mem_of_getElem? hx)
      rw [failF_step hc] at hi
      have hle : letterErr b.n l k = if beyondB 97 122 [x.c] = true then 6 else if decide (indexC (l.take k) x.c ≥ 0) = true then 5 else if beyondB 0 (2 ^ b.n.toNat - 1) [x.s] = true then 7 else if (x.s == 0 && !x.q) = true then 2 else 0 := by
        simp only [letterErr, hx]
      have err : ∀ e : Int, e ≠ 0 → letterErr b.n l k = e → (failF (letterErr b.n l) l.length 0).2 = e := by
        intro e h1 h2
        rw [hi, h2, if_neg h1]
      have hwr : IntKind.i64.wrap x.c = x.c := i64_wrap (by omega) (by omega)
      refine LWp.skip ?_
      refine LWp.blockX (fun _ : Unit => letterErr b.n l k = 0) (fun _ => el [(1, letters l), (2, .pi b.enc), (5, I k)]) (fun _ => []) (fun _ => []) ?_ ?_
      · refine LWp.seq (LWp.seq ?_)
        refine LWp.x (gs := []) (hs := [.cells x.enc, .ret (B (decide (97 ≤ x.c) && decide (x.c ≤ 122)))]) rfl ⟨⟨by omega, by simp [hx]⟩, hwr, in_ev _ 97 122, trivial⟩ ?_
        refine LWp.ite rfl (fun hb => ?_) (fun hb => ?_)
        · rw [inB_not] at hb
          rw [if_pos hb] at hle
          refine LWp.sx (gs := []) (hs := []) rfl trivial ?_
          refine LWp.ret (retT (.inr rfl) (.one (.tmp ?_ rfl)))
          rw [err 6 (by decide) hle]; rfl
        rw [inB_not] at hb
        rw [if_neg (by rw [hb]; simp)] at hle
        refine LWp.skip ?_
        refine LWp.seq (LWp.seq ?_)
        refine LWp.x (gs := []) (hs := []) rfl trivial ?_
        refine LWp.blockT (fun _ : Unit => ¬ indexC (l.take k) x.c ≥ 0) (fun _ => el [(1, letters l), (2, .pi b.enc), (5, I k)]) (fun _ => []) (fun _ => []) ?_ ?_
        · refine LWp.loopN (fun j : Nat => j ≤ k ∧ ∀ y ∈ l.take j, y.c ≠ x.c) (fun j => el [(1, letters l), (2, .pi b.enc), (5, I k), (6, I j)]) (fun _ => []) (fun _ => []) (fun j => k - j) 0 ⟨by omega, by simp⟩
            (Ent.el ⟨rfl, rfl, rfl, rfl, trivial⟩) ?_
          rintro j ⟨hj, hall⟩
          refine LWp.seq (LWp.seq ?_)
          refine LWp.x (gs := []) (hs := []) rfl trivial ?_
          refine LWp.ite rfl (fun hd => ?_) (fun hd => ?_)
          · simp only [decide_eq_true_eq, Int.ofNat_lt] at hd
            have hjl : j < l.length := by omega
            obtain ⟨y, hy⟩ := ex_get hjl
            refine LWp.skip (LWp.seq (LWp.block ?_))
            refine LWp.seq ?_
            refine LWp.dd (gs := []) (hs := [.cells y.enc, .cells x.enc]) hmix rfl (by kernel_rfl) ⟨⟨by omega, by simp [hy]⟩, ⟨by omega, by simp [hx]⟩, trivial⟩ ?_
            refine LWp.ite rfl (fun he => ?_) (fun he => ?_)
            · simp only [beq_iff_eq] at he
              have hm : y ∈ l.take k := List.mem_iff_getElem?.2 ⟨j, by rw [List.getElem?_take, if_pos hd, hy]⟩
              have h5 : decide (indexC (l.take k) x.c ≥ 0) = true := decide_eq_true ((indexC_nonneg _ _).2 ⟨y, hm, he⟩)
              rw [if_pos h5] at hle
              refine LWp.sx (gs := []) (hs := []) rfl trivial ?_
              refine LWp.ret (retT (.inr rfl) (.one (.tmp ?_ rfl)))
              rw [err 5 (by decide) hle]; rfl
            · simp only [beq_eq_false_iff_ne, ne_eq] at he
              refine LWp.skip ?_
              refine LWp.x (gs := []) (hs := []) rfl ⟨by omega, trivial⟩ ?_
              refine ⟨j + 1, ⟨by omega, ?_⟩, by omega, Ent.el ⟨rfl, rfl, rfl, rfl, trivial⟩⟩
              intro z hz
              rw [List.take_add_one, hy] at hz
              rcases List.mem_append.1 hz with hz | hz
              · exact hall z hz
              · simp only [Option.toList_some, List.mem_singleton] at hz; subst hz; exact he
          · simp only [decide_eq_false_iff_not, Int.ofNat_lt] at hd
            have : j = k := by omega
            subst this
            refine LWp.exit ⟨(), ?_, Ent.el ⟨rfl, rfl, rfl, trivial⟩⟩
            intro h
            obtain ⟨y, hy, e⟩ := (indexC_nonneg _ _).1 h
            exact hall y hy e
        intro _ hni
        rw [if_neg (by simpa using hni)] at hle
        refine LWp.seq (LWp.seq ?_)
        refine LWp.dd (gs := []) (hs := [.cells x.enc, .ret (I (2 ^ b.n.toNat - 1)), .ret (B (decide (0 ≤ x.s) && decide (x.s ≤ 2 ^ b.n.toNat - 1)))]) hmix rfl (by kernel_rfl) ⟨⟨by omega, by simp [hx]⟩, all_ev b.n h0 h1, in_ev _ 0 _, trivial⟩ ?_
        refine LWp.ite rfl (fun he => ?_) (fun he => ?_)
        · rw [inB_not] at he
          rw [if_pos he] at hle
          refine LWp.sx (gs := []) (hs := []) rfl trivial ?_
          refine LWp.ret (retT (.inr rfl) (.one (.tmp ?_ rfl)))
          rw [err 7 (by decide) hle]; rfl
        rw [inB_not] at he
        rw [if_neg (by rw [he]; simp)] at hle
        refine LWp.skip ?_
        by_cases hs : x.s = 0
        · refine LWp.seq ?_
          refine LWp.x (gs := [(57, true)]) (hs := [.cells x.enc, .cells x.enc]) rfl (by simp [hs, hx]; try exact hc) ?_
          refine LWp.ite rfl (fun hq => ?_) (fun hq => ?_)
          · simp only [Bool.not_eq_true'] at hq
            rw [if_pos (by simp [hs, hq])] at hle
            refine LWp.sx (gs := []) (hs := []) rfl trivial ?_
            refine LWp.ret (retT (.inr rfl) (.one (.tmp ?_ rfl)))
            rw [err 2 (by decide) hle]; rfl
          · simp only [Bool.not_eq_false'] at hq
            rw [if_neg (by simp [hs, hq])] at hle
            exact LWp.skip ⟨(), hle, Ent.el ⟨rfl, rfl, rfl, trivial⟩⟩
        · refine LWp.seq ?_
          refine LWp.x (gs := [(57, false)]) (hs := [.cells x.enc]) rfl (by simp [hs, hx]; try exact hc) ?_
          refine LWp.ite (b := false) rfl (fun h => by cases h) (fun _ => ?_)
          rw [if_neg (by simp [hs])] at hle
          exact LWp.skip ⟨(), hle, Ent.el ⟨rfl, rfl, rfl, trivial⟩⟩
      · intro _ hz
        rw [if_pos hz] at hi
        refine LWp.x (gs := []) (hs := []) rfl ⟨by omega, trivial⟩ ?_
        exact ⟨k + 1, ⟨hc, hi⟩, by omega, Ent.el ⟨rfl, rfl, rfl, trivial⟩⟩
    · simp only [List.length_map, decide_eq_false_iff_not, Int.ofNat_lt] at hc
      exact LWp.exit ⟨(), by rw [hi, show l.length - k = 0 by omega]; rfl, Ent.el trivial⟩
  · intro _ h
    refine LWp.sx (gs := []) (hs := []) rfl trivial ?_
    refine LWp.ret (retT (.inr rfl) (.one (.tmp ?_ rfl)))
    rw [h]; rfl
def spellS (b : Book) (s : Spelling) : Int := if beyondB 0 ((b.al.length : Int) - 1) [s.a] = true then 4 else if beyondB 1 5 [(s.t.length : Int)] = true then 3 else match b.al[s.a.toNat]? with
    | none => 0
    | some a => if s.t.all (fun c => decide (0 ≤ indexC a.ls c.toNat)) = true then 0 else 6
theorem rspelling_ev (b : Book) (hal : b.al.length < 1000) (hls : ∀ a ∈ b.al, a.ls.length ≤ 1000) (s : Spelling) (hw : s.wf) : Ev Tryz.prog 103 [.agg b.enc, .agg s.enc] (I (spellS b s)) := by
  have ht := hw.t
  refine Ev.intro fn103 ?_
  refine LWp.sx (gs := []) (hs := [.ice, .ice]) rfl ⟨⟨rfl, rfl⟩, ⟨rfl, rfl⟩, trivial⟩ ?_
  refine LWp.seq (LWp.seq ?_)
  refine LWp.x (gs := []) (hs := [.ret (B (decide (0 ≤ s.a) && decide (s.a ≤ ((b.al.map Alph.enc).length : Int) - 1)))]) rfl ⟨by simp; omega, in_ev _ 0 _, trivial⟩ ?_
  refine LWp.ite rfl (fun hc => ?_) (fun hc => ?_)
  · rw [inB_not, List.length_map] at hc
    refine LWp.sx (gs := []) (hs := []) rfl trivial ?_
    refine LWp.ret (retT (.inr rfl) (.one (.tmp ?_ rfl)))
    show I _ = I _
    simp only [spellS, hc, if_true]
  rw [inB_not, List.length_map] at hc
  refine LWp.skip ?_
  refine LWp.seq (LWp.seq ?_)
  refine LWp.x (gs := []) (hs := [.ret (B (decide (1 ≤ (s.t.length : Int)) && decide ((s.t.length : Int) ≤ 5)))]) rfl ⟨in_ev _ 1 5, trivial⟩ ?_
  refine LWp.ite rfl (fun hd => ?_) (fun hd => ?_)
  · rw [inB_not] at hd
    refine LWp.sx (gs := []) (hs := []) rfl trivial ?_
    refine LWp.ret (retT (.inr rfl) (.one (.tmp ?_ rfl)))
    show I _ = I _
    simp only [spellS, hc, hd, if_true, if_false, Bool.false_eq_true]
  rw [inB_not] at hd
  have hc' := hc
  simp only [beyondB, List.any_cons, List.any_nil, Bool.or_false, Bool.or_eq_false_iff, decide_eq_false_iff_not] at hc'
  have hlt : s.a.toNat < b.al.length := by omega
  obtain ⟨a, ha⟩ := ex_get hlt
  have hS : spellS b s = if s.t.all (fun c => decide (0 ≤ indexC a.ls c.toNat)) = true then 0 else 6 := by simp only [spellS, hc, hd, ha, if_false, Bool.false_eq_true]
  rw [hS]
  refine LWp.skip ?_
  refine LWp.seq (LWp.seq ?_)
  refine LWp.x (gs := []) (hs := []) rfl trivial ?_
  refine LWp.blockT (fun _ : Unit => s.t.all (fun c => decide (0 ≤ indexC a.ls c.toNat)) = true) (fun _ => el []) (fun _ => []) (fun _ => []) ?_ ?_
  · refine LWp.loopN (fun k : Nat => k ≤ s.t.length ∧ s.t.all (fun c => decide (0 ≤ indexC a.ls c.toNat)) = (s.t.drop k).all (fun c => decide (0 ≤ indexC a.ls c.toNat))) (fun k => el [(2, .pi b.enc), (3, .pi s.enc), (5, I k)]) (fun _ => []) (fun _ => []) (fun k => s.t.length - k) 0 ⟨by omega, rfl⟩
      (Ent.el ⟨rfl, rfl, rfl, trivial⟩) ?_
    rintro k ⟨hk, hi⟩
    refine LWp.seq (LWp.seq ?_)
    refine LWp.x (gs := []) (hs := []) rfl trivial ?_
    refine LWp.ite rfl (fun hb => ?_) (fun hb => ?_)
    · simp only [decide_eq_true_eq] at hb
      have hb' : k < s.t.length := by have : ((k : Int) < (s.t.length : Int)) := hb; omega
      obtain ⟨c, hx⟩ := ex_get hb'
      rw [drop_cons hx, List.all_cons] at hi
      refine LWp.skip (LWp.seq (LWp.block ?_))
      refine LWp.seq ?_
      refine LWp.dd (gs := []) (hs := [.cells a.enc, .byte c, .ret (I (indexC a.ls c.toNat))]) hmix rfl (by kernel_rfl) ⟨⟨by omega, by simp [ha]⟩, ⟨by omega, by simpa using hx⟩, rletter_ev a c.toNat (hls a (List.mem_of_getElem? ha)), trivial⟩ ?_
      refine LWp.ite rfl (fun he => ?_) (fun he => ?_)
      · simp only [decide_eq_true_eq] at he
        refine LWp.sx (gs := []) (hs := []) rfl trivial ?_
        refine LWp.ret (retT (.inr rfl) (.one (.tmp ?_ rfl)))
        have : decide (0 ≤ indexC a.ls c.toNat) = false := by simp; omega
        rw [hi, this]; rfl
      · simp only [decide_eq_false_iff_not] at he
        have : decide (0 ≤ indexC a.ls c.toNat) = true := by simp; omega
        refine LWp.skip ?_
        refine LWp.x (gs := []) (hs := []) rfl ⟨by omega, trivial⟩ ?_
        exact ⟨k + 1, ⟨hb', by rw [hi, this]; rfl⟩, by omega, Ent.el ⟨rfl, rfl, rfl, trivial⟩⟩
    · simp only [decide_eq_false_iff_not] at hb
      have hb' : ¬ k < s.t.length := by have : ¬ ((k : Int) < (s.t.length : Int)) := hb; omega
      exact LWp.exit ⟨(), by rw [hi, drop_nil hb']; rfl, Ent.el trivial⟩
  · intro _ h
    refine LWp.sx (gs := []) (hs := []) rfl trivial ?_
    refine LWp.ret (retT (.inr rfl) (.one (.tmp ?_ rfl)))
    rw [h]; rfl
theorem rcheck_ev (b : Book) (hw : b.wf) : Ev Tryz.prog 56 [.agg b.enc] (.tup [I (check b).1, I (check b).2.1, I (check b).2.2]) := by
  refine Ev.intro fn56 ?_
  refine LWp.sx (gs := []) (hs := [.ice]) rfl ⟨⟨rfl, rfl⟩, trivial⟩ ?_
  have res : ∀ {env : Env} {H : Heap} {p q r : Int}, check b = (p, q, r) → env 2 = I p → env 3 = I q → env 4 = I r → retP Tryz.prog [.tmp 2, .tmp 3, .tmp 4] (.tup [I (check b).1, I (check b).2.1, I (check b).2.2]) .ret env H [] := by
    intro env H p q r h h2 h3 h4
    rw [h]
    exact retT (.inr rfl) (.many (by decide) ⟨.tmp h2 rfl, .tmp h3 rfl, .tmp h4 rfl, trivial⟩)
  refine LWp.seq (LWp.seq ?_)
  refine LWp.x (gs := []) (hs := [.ret (B (decide (1 ≤ b.n) && decide (b.n ≤ 4)))]) rfl ⟨in_ev _ 1 4, trivial⟩ ?_
  refine LWp.ite rfl (fun hc => ?_) (fun hc => ?_)
  · rw [inB_not] at hc
    refine LWp.sx (gs := []) (hs := []) rfl trivial ?_
    exact LWp.ret (res (p := 1) (q := 0) (r := 7) (by simp only [check, hc, if_true]) rfl rfl rfl)
  rw [inB_not] at hc
  refine LWp.skip (LWp.seq (LWp.seq ?_))
  refine LWp.x (gs := []) (hs := [.ret (B (decide (1 ≤ ((b.al.map Alph.enc).length : Int)) && decide (((b.al.map Alph.enc).length : Int) ≤ 3)))]) rfl ⟨in_ev _ 1 3, trivial⟩ ?_
  refine LWp.ite rfl (fun hd => ?_) (fun hd => ?_)
  · rw [inB_not, List.length_map] at hd
    refine LWp.sx (gs := []) (hs := []) rfl trivial ?_
    exact LWp.ret (res (p := 2) (q := 0) (r := 3) (by simp only [check, hc, hd, if_true, if_false, Bool.false_eq_true]) rfl rfl rfl)
  rw [inB_not, List.length_map] at hd
  have hc' := hc
  have hd' := hd
  simp only [beyondB, List.any_cons, List.any_nil, Bool.or_false, Bool.or_eq_false_iff, decide_eq_false_iff_not] at hc' hd'
  refine LWp.skip ?_
  refine LWp.sx (gs := []) (hs := []) rfl trivial ?_
  refine LWp.seq (LWp.seq ?_)
  refine LWp.x (gs := []) (hs := []) rfl trivial ?_
  refine LWp.blockT (fun _ : Unit => (failF (alphErr b) b.al.length 0).2 = 0) (fun _ => el [(1, .pi b.enc)]) (fun _ => []) (fun _ => []) ?_ ?_
  · refine LWp.loopN (fun k : Nat => k ≤ b.al.length ∧ failF (alphErr b) b.al.length 0 = failF (alphErr b) (b.al.length - k) k) (fun k => el [(1, .pi b.enc), (5, .lin 9 1 (((b.al.take k).map (·.name)).map fun s => [Str s])), (6, I k)]) (fun _ => []) (fun _ => []) (fun k => b.al.length - k) 0 ⟨by omega, rfl⟩
      (Ent.trans (Ent.nilLin (t := 5) 9 1 rfl) (Ent.el ⟨rfl, rfl, rfl, trivial⟩)) ?_
    rintro k ⟨hk, hi⟩
    refine LWp.seq (LWp.seq ?_)
    refine LWp.x (gs := []) (hs := []) rfl trivial ?_
    refine LWp.ite rfl (fun he => ?_) (fun he => ?_)
    · simp only [List.length_map, decide_eq_true_eq, Int.ofNat_lt] at he
      obtain ⟨a, ha⟩ := ex_get he
      have haw := hw.al a (List.mem_of_getElem? ha)
      rw [failF_step he] at hi
      have hle : alphErr b k = if freshE a.name ((b.al.take k).map (·.name)) = 0 then lettersE b.n a.ls else freshE a.name ((b.al.take k).map (·.name)) := by
        simp only [alphErr, ha, freshE, lettersE, List.any_map]
        by_cases g1 : nameB a.name = true
        · simp only [g1, if_true]
          have e : (b.al.take k).any ((fun x => x == a.name) ∘ fun x => x.name) = (b.al.take k).any (fun x => x.name == a.name) := rfl
          rw [e]
          by_cases g2 : (b.al.take k).any (fun x => x.name == a.name) = true
          · simp [g2]
          · simp [g2]
        · simp [g1]
      refine LWp.skip ?_
      refine LWp.blockX (fun _ : Unit => alphErr b k = 0) (fun _ => el [(1, .pi b.enc), (5, .lin 9 1 (((b.al.take (k + 1)).map (·.name)).map fun s => [Str s])), (6, I k)]) (fun _ => []) (fun _ => []) ?_ ?_
      · generalize hnm : (b.al.take k).map (·.name) = nm at hle
        have hnl : nm.length ≤ 3 := by rw [← hnm]; simp; omega
        have hns : (b.al.take (k + 1)).map (·.name) = nm ++ [a.name] := by
          rw [List.take_add_one, ha, List.map_append, hnm]; rfl
        rw [hns]
        refine LWp.peek 5 rfl (fun ad cap => ?_)
        refine LWp.sx (gs := []) (hs := [.cells a.enc, .retB [Str a.name, strs nm] (I (freshE a.name nm))]) rfl ⟨⟨by omega, by simp [ha]⟩, ⟨fresh_ev a.name haw.name nm, rfl, .refl _, .linV (u := 5) rfl rfl, trivial⟩, trivial⟩ ?_
        refine LWp.sx (gs := []) (hs := [.cells a.enc, .ice, .own 5]) rfl ⟨⟨by omega, by simp [ha]⟩, rfl, ⟨⟨rfl, rfl, rfl⟩, by simp [chunk]; omega, by simp [chunk]; omega⟩, trivial⟩ ?_
        refine LWp.cutX (fun _ : Unit => True) (fun _ => el [(1, .pi b.enc), (5, .lin 9 1 ((nm ++ [a.name]).map fun s => [Str s])), (6, I k), (7, I (alphErr b k))]) (fun _ => []) (fun _ => []) ?_ ?_
        · refine LWp.sx (gs := []) (hs := []) rfl trivial ?_
          refine LWp.ite rfl (fun hf => ?_) (fun hf => ?_)
          · simp only [beq_iff_eq] at hf
            rw [if_pos hf] at hle
            refine LWp.dd (gs := []) (hs := [.cells a.enc, .ret (I (lettersE b.n a.ls))]) hmix rfl (by kernel_rfl) ⟨⟨by omega, by simp [ha]⟩, letters_ev b (by omega) (by omega) a.ls haw.ls, trivial⟩ ?_
            exact ⟨(), trivial, Ent.el ⟨rfl, by show AV.lin _ _ _ = _; rw [List.map_append]; rfl, rfl, by rw [hle]; rfl, trivial⟩⟩
          · simp only [beq_eq_false_iff_ne, ne_eq] at hf
            rw [if_neg hf] at hle
            exact LWp.skip ⟨(), trivial, Ent.el ⟨rfl, by show AV.lin _ _ _ = _; rw [List.map_append]; rfl, rfl, by rw [hle]; rfl, trivial⟩⟩
        intro _ _
        refine LWp.seq ?_
        refine LWp.x (gs := []) (hs := []) rfl trivial ?_
        refine LWp.ite rfl (fun hf => ?_) (fun hf => ?_)
        · simp only [bne_iff_ne, ne_eq] at hf
          rw [if_neg hf] at hi
          refine LWp.sx (gs := []) (hs := []) rfl trivial ?_
          exact LWp.ret (res (p := 2) (q := (k : Int)) (r := alphErr b k) (by simp only [check, hc, hd, hi, hf, if_false, Bool.false_eq_true]) rfl rfl rfl)
        · simp only [bne_eq_false_iff_eq] at hf
          exact LWp.skip ⟨(), hf, Ent.el ⟨rfl, rfl, rfl, trivial⟩⟩
      · intro _ hz
        rw [if_pos hz] at hi
        refine LWp.x (gs := []) (hs := []) rfl ⟨by omega, trivial⟩ ?_
        exact ⟨k + 1, ⟨he, hi⟩, by omega, Ent.el ⟨rfl, rfl, rfl, trivial⟩⟩
    · simp only [List.length_map, decide_eq_false_iff_not, Int.ofNat_lt] at he
      exact LWp.exit ⟨(), by rw [hi, show b.al.length - k = 0 by omega]; rfl, Ent.el ⟨rfl, trivial⟩⟩
  intro _ hz
  refine LWp.seq (LWp.seq ?_)
  refine LWp.x (gs := []) (hs := []) rfl trivial ?_
  refine LWp.ite rfl (fun he => ?_) (fun he => ?_)
  · simp only [List.length_map, decide_eq_true_eq] at he
    have he' : 5 < b.ss.length := by omega
    refine LWp.sx (gs := []) (hs := []) rfl trivial ?_
    exact LWp.ret (res (p := 3) (q := 0) (r := 3) (by simp only [check, hc, hd, hz, he', if_true, if_false, Bool.false_eq_true]) rfl rfl rfl)
  simp only [List.length_map, decide_eq_false_iff_not] at he
  have he' : ¬ 5 < b.ss.length := by omega
  have hls : ∀ a ∈ b.al, a.ls.length ≤ 1000 := by
    intro a ha
    obtain ⟨i, hi⟩ := List.mem_iff_getElem?.1 ha
    have := ((alphErr_iff hi).1 (failF_iff.1 hz i (List.getElem?_eq_some_iff.1 hi).1)).1.l6
    omega
  refine LWp.skip (LWp.seq (LWp.seq ?_))
  refine LWp.x (gs := []) (hs := []) rfl trivial ?_
  refine LWp.blockT (fun _ : Unit => (failF (spellErr b) b.ss.length 0).2 = 0) (fun _ => el []) (fun _ => []) (fun _ => []) ?_ ?_
  · refine LWp.loopN (fun k : Nat => k ≤ b.ss.length ∧ failF (spellErr b) b.ss.length 0 = failF (spellErr b) (b.ss.length - k) k) (fun k => el [(1, .pi b.enc), (8, I k)]) (fun _ => []) (fun _ => []) (fun k => b.ss.length - k) 0 ⟨by omega, rfl⟩
      (Ent.el ⟨rfl, rfl, trivial⟩) ?_
    rintro k ⟨hk, hi⟩
    refine LWp.seq (LWp.seq ?_)
    refine LWp.x (gs := []) (hs := []) rfl trivial ?_
    refine LWp.ite rfl (fun hf => ?_) (fun hf => ?_)
    · simp only [List.length_map, decide_eq_true_eq, Int.ofNat_lt] at hf
      obtain ⟨s, hs⟩ := ex_get hf
      rw [failF_step hf] at hi
      have hle : spellErr b k = spellS b s := by simp only [spellErr, hs]; rfl
      refine LWp.skip (LWp.seq (LWp.block ?_))
      refine LWp.sd (gs := []) (hs := [.cells s.enc, .ret (I (spellS b s))]) hmix rfl (by kernel_rfl) ⟨⟨by omega, by simp [hs]⟩, rspelling_ev b (by omega) hls s (hw.ss s (List.mem_of_getElem? hs)), trivial⟩ ?_
      refine LWp.seq ?_
      refine LWp.x (gs := []) (hs := []) rfl trivial ?_
      refine LWp.ite rfl (fun hg => ?_) (fun hg => ?_)
      · simp only [bne_iff_ne, ne_eq] at hg
        rw [← hle] at hg
        rw [if_neg hg] at hi
        refine LWp.sx (gs := []) (hs := []) rfl trivial ?_
        exact LWp.ret (res (p := 3) (q := (k : Int)) (r := spellS b s) (by simp only [check, hc, hd, hz, he', hi, hg, if_true, if_false, Bool.false_eq_true]; rw [hle]) rfl rfl rfl)
      · simp only [bne_eq_false_iff_eq] at hg
        rw [← hle] at hg
        rw [if_pos hg] at hi
        refine LWp.skip ?_
        refine LWp.x (gs := []) (hs := []) rfl ⟨by omega, trivial⟩ ?_
        exact ⟨k + 1, ⟨hf, hi⟩, by omega, Ent.el ⟨rfl, rfl, trivial⟩⟩
    · simp only [List.length_map, decide_eq_false_iff_not, Int.ofNat_lt] at hf
      exact LWp.exit ⟨(), by rw [hi, show b.ss.length - k = 0 by omega]; rfl, Ent.el trivial⟩
  · intro _ hs
    refine LWp.sx (gs := []) (hs := []) rfl trivial ?_
    exact LWp.ret (res (p := 0) (q := 0) (r := 0) (by simp only [check, hc, hd, hz, he', hs, if_true, if_false, Bool.false_eq_true]) rfl rfl rfl)
end Go.Px

namespace Go.Px
open Go.Proofs
theorem inB_of (n lo hi : Int) : (decide (lo ≤ n) && decide (n ≤ hi)) = !beyondB lo hi [n] := by
  rw [← inB_not]; simp
end Go.Px

