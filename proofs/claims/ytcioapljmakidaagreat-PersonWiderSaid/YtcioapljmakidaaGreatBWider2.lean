/- Part 2 of the proof of the statement PersonWider (contracts of the functions that it alone wants). No conditions. -/
import Derived.Test.YtcioapljmakidaaGreatBWider1
import Derived.Test.YtcioapljmakidaaGreatChecked
import Derived.KernelRfl
namespace Go.Px
open Go.Proofs
set_option maxRecDepth 100000
def L14 : LCode :=
 (.seq
 (.ops [ow 2 (.box 29 (tm 0)), ow 3 (.box 76 (tm 1)), ow 4 (.mov (.const (.bool false)))])
 (.seq
 (.seq
 (.ops [ow 18 (.load 29 (tm 2) (some 6)), ow 19 (.call 33 [(tm 18)] 4), ow 20 (.un .not (tm 19)), om 21 20, oz 22 21 (.faddr 29 (tm 2) 2 4), oz 23 21 (.load 26 (tm 22) none), oz 24 21 (.len false 26 3 (tm 23)), oz 25 21 (.bin .eql 3 (tm 24) (kc 0)), ow 26 (.pick (tm 21) (.const (.bool true)) (tm 25))])
 (.ite (tm 26)
 (.seq
 (.ops [ow 27 (.call 22 [] 4), om 4 27]) .ret) .skip))
 (.seq
 (.ops [ow 28 (.load 29 (tm 2) (some 6)), ow 5 (.alloc 29 [(.int .i64 0), (.slice none 0 0), (.slice none 0 0), (.int .i64 0), (.slice none 0 0), (.slice none 0 0)]), ⟨none, none, .store 29 (tm 5) (tm 28) 6⟩])
 (.seq
 (.ops [ow 29 (.bslice 26 0 [] 49 5 [(.int .i64 0), (.int .i64 0), (.int .i64 0), (.int .i64 0), (.int .i64 0)]), ow 30 (.faddr 29 (tm 2) 2 4), ow 31 (.load 26 (tm 30) none), ow 32 (.append 26 26 (tm 29) (tm 31) 49 5 40 [(.int .i64 0), (.int .i64 0), (.int .i64 0), (.int .i64 0), (.int .i64 0)]), ow 33 (.faddr 29 (tm 5) 2 4), ⟨none, none, .store 26 (tm 33) (tm 32) 1⟩])
 (.seq
 (.ops [ow 34 (.iaddrA 76 (tm 3) (kc 0) 3 1), ow 35 (.load 5 (tm 34) none), ow 36 (.toInt .i64 5 3 (tm 35)), ow 37 (.faddr 29 (tm 2) 2 4), ow 38 (.load 26 (tm 37) none), ow 39 (.len false 26 3 (tm 38)), ow 40 (.bin .rem 3 (tm 36) (tm 39)), om 6 40])
 (.seq
 (.ops [ow 41 (.faddr 29 (tm 5) 2 4), ow 42 (.load 26 (tm 41) none), om 43 6, ow 44 (.iaddr 26 (tm 42) (tm 43) 5), ow 45 (.load 49 (tm 44) (some 5)), ow 7 (.alloc 49 [(.int .i64 0), (.int .i64 0), (.int .i64 0), (.int .i64 0), (.int .i64 0)]), ⟨none, none, .store 49 (tm 7) (tm 45) 5⟩])
 (.seq
 (.ops [ow 46 (.faddr 49 (tm 7) 2 2), ow 47 (.faddr 43 (tm 46) 0 0), ow 48 (.load 3 (tm 47) none), ow 49 (.iaddrA 76 (tm 3) (kc 1) 3 1), ow 50 (.load 5 (tm 49) none), ow 51 (.toInt .i64 5 3 (tm 50)), ow 52 (.bin .rem 3 (tm 51) (kc 40)), ow 53 (.bin .sub 3 (tm 48) (tm 52)), ow 54 (.max [3, 3] 3 [(kc 0), (tm 53)]), ow 55 (.faddr 49 (tm 7) 2 2), ow 56 (.faddr 43 (tm 55) 1 1), ow 57 (.load 3 (tm 56) none), ow 58 (.iaddrA 76 (tm 3) (kc 1) 3 1), ow 59 (.load 5 (tm 58) none), ow 60 (.toInt .i64 5 3 (tm 59)), ow 61 (.bin .rem 3 (tm 60) (kc 30)), ow 62 (.bin .add 3 (tm 57) (tm 61)), ow 63 (.min [3, 3] 3 [(kc 199), (tm 62)]), ow 64 (.call 48 [(tm 54), (tm 63)] 43), ow 65 (.faddr 49 (tm 7) 2 2), ⟨none, none, .store 43 (tm 65) (tm 64) 2⟩])
 (.seq
 (.seq
 (.ops [ow 66 (.iaddrA 76 (tm 3) (kc 2) 3 1), ow 67 (.load 5 (tm 66) none), ow 68 (.bin .rem 5 (tm 67) (.const (.int .u8 2))), ow 69 (.bin .eql 5 (tm 68) (.const (.int .u8 0)))])
 (.ite (tm 69)
 (.ops [ow 70 (.faddr 49 (tm 7) 1 1), ⟨none, none, .store 3 (tm 70) (kc (-1)) 1⟩]) .skip))
 (.seq
 (.ops [ow 71 (.faddr 29 (tm 5) 2 4), ow 72 (.load 26 (tm 71) none), om 73 6, ow 74 (.load 49 (tm 7) (some 5)), ow 75 (.iaddr 26 (tm 72) (tm 73) 5), ⟨none, none, .store 49 (tm 75) (tm 74) 5⟩])
 (.seq
 (.ops [ow 77 (.load 29 (tm 2) (some 6)), ow 78 (.call 17 [(tm 77)] 35), om 76 78, ow 79 (.extract (tm 76) 0), ow 80 (.extract (tm 76) 1), ow 81 (.extract (tm 76) 2), om 8 79, om 9 80, om 10 81])
 (.seq
 (.ops [ow 83 (.load 29 (tm 5) (some 6)), ow 84 (.call 17 [(tm 83)] 35), om 82 84, ow 85 (.extract (tm 82) 0), ow 86 (.extract (tm 82) 1), ow 87 (.extract (tm 82) 2), om 11 85, om 12 86, om 13 87])
 (.seq
 (.ops [ow 89 (.load 29 (tm 2) (some 6)), ow 90 (.call 31 [(tm 89)] 50), om 88 90, ow 91 (.extract (tm 88) 0), ow 92 (.extract (tm 88) 1), om 14 91, om 15 92])
 (.seq
 (.ops [ow 94 (.load 29 (tm 5) (some 6)), ow 95 (.call 31 [(tm 94)] 50), om 93 95, ow 96 (.extract (tm 93) 0), ow 97 (.extract (tm 93) 1), om 16 96, om 17 97])
 (.seq
 (.ops [om 98 10, ow 99 (.bin .eql 31 (tm 98) (kc 0)), om 100 99, oz 101 100 (.mov (tm 10)), oz 102 100 (.bin .eql 31 (tm 101) (kc 8)), ow 103 (.pick (tm 100) (.const (.bool true)) (tm 102)), om 104 103, oy 105 104 (.mov (tm 13)), oy 106 104 (.bin .eql 31 (tm 105) (kc 0)), oy 107 104 (.mov (tm 106)), oz 108 107 (.mov (tm 13)), oz 109 107 (.bin .eql 31 (tm 108) (kc 8)), oy 110 104 (.pick (tm 107) (.const (.bool true)) (tm 109)), ow 111 (.pick (tm 104) (tm 110) (.const (.bool false))), om 112 111, oy 113 112 (.mov (tm 9)), oy 114 112 (.mov (tm 12)), oy 115 112 (.bin .leq 3 (tm 113) (tm 114)), ow 116 (.pick (tm 112) (tm 115) (.const (.bool false))), om 117 116, oy 118 117 (.mov (tm 15)), oy 119 117 (.bin .neq 31 (tm 118) (kc 0)), oy 120 117 (.mov (tm 119)), oz 121 120 (.mov (tm 17)), oz 122 120 (.bin .eql 31 (tm 121) (kc 0)), oz 123 120 (.mov (tm 122)), oy 124 123 (.mov (tm 16)), oy 125 123 (.len false 34 3 (tm 124)), oy 126 123 (.mov (tm 14)), oy 127 123 (.len false 34 3 (tm 126)), oy 128 123 (.bin .leq 3 (tm 125) (tm 127)), oz 129 120 (.pick (tm 123) (tm 128) (.const (.bool false))), oy 130 117 (.pick (tm 120) (.const (.bool true)) (tm 129)), ow 131 (.pick (tm 117) (tm 130) (.const (.bool false))), om 132 131, oy 133 132 (.call 22 [] 4), ow 134 (.pick (tm 132) (tm 133) (.const (.bool false))), om 4 134]) .ret))))))))))))))
theorem fn14 : FnOK Tryz.prog 14 135 [.tmp 4] L14 := ⟨Tryz.f14, Tryz.func14, by kernel_rfl, Tryz.ntmps14, by rw [Tryz.results14], by kernel_rfl⟩
def L16 : LCode :=
 (.seq
 (.ops [ow 1 (.box 29 (tm 0)), ow 2 (.mov (kc 0)), ow 3 (.mov (kc 0)), ow 4 (.mov (kc 0))])
 (.seq
 (.ops [ow 12 (.faddr 29 (tm 1) 0 0), ow 13 (.load 25 (tm 12) (some 3)), ow 14 (.call 56 [(tm 13)] 32), om 11 14, ow 15 (.extract (tm 11) 0), ow 16 (.extract (tm 11) 1), ow 17 (.extract (tm 11) 2), om 5 15, om 6 16, om 7 17])
 (.seq
 (.seq
 (.ops [om 18 7, ow 19 (.bin .neq 31 (tm 18) (kc 0))])
 (.ite (tm 19)
 (.seq
 (.ops [om 20 7, ow 2 (.mov (kc 1)), ow 3 (.mov (kc 0)), om 4 20]) .ret) .skip))
 (.seq
 (.seq
 (.ops [ow 21 (.faddr 29 (tm 1) 1 3), ow 22 (.load 3 (tm 21) none), ow 23 (.call 40 [(tm 22), (kc 1), (kc 4)] 4), ow 24 (.un .not (tm 23))])
 (.ite (tm 24)
 (.seq
 (.ops [ow 2 (.mov (kc 2)), ow 3 (.mov (kc 0)), ow 4 (.mov (kc 7))]) .ret) .skip))
 (.seq
 (.seq
 (.ops [ow 25 (.faddr 29 (tm 1) 2 4), ow 26 (.load 26 (tm 25) none), ow 27 (.len false 26 3 (tm 26)), ow 28 (.bin .gtr 3 (tm 27) (kc 5))])
 (.ite (tm 28)
 (.seq
 (.ops [ow 2 (.mov (kc 3)), ow 3 (.mov (kc 0)), ow 4 (.mov (kc 3))]) .ret) .skip))
 (.seq
 (.seq
 (.ops [ow 8 (.mov (kc 0))])
 (.block 0
 (.loop
 (.seq
 (.seq
 (.ops [om 29 8, ow 30 (.faddr 29 (tm 1) 2 4), ow 31 (.load 26 (tm 30) none), ow 32 (.len false 26 3 (tm 31)), ow 33 (.bin .lss 3 (tm 29) (tm 32))])
 (.ite (tm 33) .skip
 (.exit 0)))
 (.seq
 (.block 1
 (.seq
 (.dops [(ow 36 (.load 29 (tm 1) (some 6)), []), (ow 37 (.faddr 29 (tm 1) 2 4), []), (ow 38 (.load 26 (tm 37) none), [1]), (om 39 8, []), (ow 40 (.iaddr 26 (tm 38) (tm 39) 5), [2, 3]), (ow 41 (.load 49 (tm 40) (some 5)), [4]), (om 42 8, []), (ow 43 (.call 57 [(tm 36), (tm 41), (tm 42)] 31), [0, 5, 6]), (om 7 43, [7, 7, 0, 1, 2, 3, 4, 5, 6, 7])])
 (.seq
 (.ops [om 44 7, ow 45 (.bin .neq 31 (tm 44) (kc 0))])
 (.ite (tm 45)
 (.seq
 (.ops [om 46 8, om 47 7, ow 2 (.mov (kc 3)), om 3 46, om 4 47]) .ret) .skip))))
 (.ops [om 34 8, ow 35 (.bin .add 3 (tm 34) (kc 1)), om 8 35]))))))
 (.seq
 (.seq
 (.ops [ow 48 (.faddr 29 (tm 1) 3 5), ow 49 (.load 27 (tm 48) none), ow 50 (.len false 27 3 (tm 49)), ow 51 (.bin .gtr 3 (tm 50) (kc 4))])
 (.ite (tm 51)
 (.seq
 (.ops [ow 2 (.mov (kc 4)), ow 3 (.mov (kc 0)), ow 4 (.mov (kc 3))]) .ret) .skip))
 (.seq
 (.seq
 (.ops [ow 9 (.mov (kc 0))])
 (.block 2
 (.loop
 (.seq
 (.seq
 (.ops [om 52 9, ow 53 (.faddr 29 (tm 1) 3 5), ow 54 (.load 27 (tm 53) none), ow 55 (.len false 27 3 (tm 54)), ow 56 (.bin .lss 3 (tm 52) (tm 55))])
 (.ite (tm 56) .skip
 (.exit 2)))
 (.seq
 (.block 3
 (.seq
 (.ops [ow 59 (.faddr 29 (tm 1) 3 5), ow 60 (.load 27 (tm 59) none), om 61 9, ow 62 (.iaddr 27 (tm 60) (tm 61) 3), ow 63 (.load 63 (tm 62) (some 3)), ow 10 (.alloc 63 [(.int .i64 0), (.int .i64 0), (.bool false)]), ⟨none, none, .store 63 (tm 10) (tm 63) 3⟩])
 (.seq
 (.seq
 (.ops [ow 64 (.faddr 63 (tm 10) 0 0), ow 65 (.load 3 (tm 64) none), ow 66 (.faddr 29 (tm 1) 2 4), ow 67 (.load 26 (tm 66) none), ow 68 (.len false 26 3 (tm 67)), ow 69 (.bin .sub 3 (tm 68) (kc 1)), ow 70 (.call 40 [(tm 65), (kc 0), (tm 69)] 4), ow 71 (.un .not (tm 70)), om 72 71, oz 73 72 (.faddr 63 (tm 10) 1 1), oz 74 72 (.load 3 (tm 73) none), oz 75 72 (.faddr 29 (tm 1) 2 4), oz 76 72 (.load 26 (tm 75) none), oz 77 72 (.len false 26 3 (tm 76)), oz 78 72 (.bin .sub 3 (tm 77) (kc 1)), oz 79 72 (.call 40 [(tm 74), (kc 0), (tm 78)] 4), oz 80 72 (.un .not (tm 79)), ow 81 (.pick (tm 72) (.const (.bool true)) (tm 80))])
 (.ite (tm 81)
 (.seq
 (.ops [om 82 9, ow 2 (.mov (kc 4)), om 3 82, ow 4 (.mov (kc 4))]) .ret) .skip))
 (.seq
 (.ops [ow 83 (.faddr 63 (tm 10) 0 0), ow 84 (.load 3 (tm 83) none), ow 85 (.faddr 63 (tm 10) 1 1), ow 86 (.load 3 (tm 85) none), ow 87 (.bin .eql 3 (tm 84) (tm 86))])
 (.ite (tm 87)
 (.seq
 (.ops [om 88 9, ow 2 (.mov (kc 4)), om 3 88, ow 4 (.mov (kc 2))]) .ret) .skip)))))
 (.ops [om 57 9, ow 58 (.bin .add 3 (tm 57) (kc 1)), om 9 58]))))))
 (.seq
 (.ops [ow 2 (.mov (kc 0)), ow 3 (.mov (kc 0)), ow 4 (.mov (kc 0))]) .ret)))))))))
theorem fn16 : FnOK Tryz.prog 16 89 [.tmp 2, .tmp 3, .tmp 4] L16 := ⟨Tryz.f16, Tryz.func16, by kernel_rfl, Tryz.ntmps16, by rw [Tryz.results16], by kernel_rfl⟩
def L33 : LCode :=
 (.seq
 (.ops [ow 1 (.box 29 (tm 0)), ow 2 (.mov (.const (.bool false)))])
 (.seq
 (.ops [ow 7 (.load 29 (tm 1) (some 6)), ow 8 (.call 16 [(tm 7)] 32), om 6 8, ow 9 (.extract (tm 6) 0), ow 10 (.extract (tm 6) 1), ow 11 (.extract (tm 6) 2), om 3 9, om 4 10, om 5 11])
 (.seq
 (.ops [om 12 5, ow 13 (.bin .eql 31 (tm 12) (kc 0)), om 2 13]) .ret)))
theorem fn33 : FnOK Tryz.prog 33 14 [.tmp 2] L33 := ⟨Tryz.f33, Tryz.func33, by kernel_rfl, Tryz.ntmps33, by rw [Tryz.results33], by kernel_rfl⟩
def L40 : LCode :=
 (.seq
 (.ops [ow 6 (.mov (.const (.bool false)))])
 (.seq
 (.ops [om 7 0, om 8 1, ow 9 (.bin .geq 3 (tm 7) (tm 8)), om 10 9, oy 11 10 (.mov (tm 0)), oy 12 10 (.mov (tm 2)), oy 13 10 (.bin .leq 3 (tm 11) (tm 12)), ow 14 (.pick (tm 10) (tm 13) (.const (.bool false))), om 6 14]) .ret))
theorem fn40 : FnOK Tryz.prog 40 15 [.tmp 6] L40 := ⟨Tryz.f40, Tryz.func40, by kernel_rfl, Tryz.ntmps40, by rw [Tryz.results40], by kernel_rfl⟩
def L56 : LCode :=
 (.seq
 (.ops [ow 1 (.box 25 (tm 0)), ow 2 (.mov (kc 0)), ow 3 (.mov (kc 0)), ow 4 (.mov (kc 0))])
 (.seq
 (.seq
 (.ops [ow 10 (.faddr 25 (tm 1) 0 0), ow 11 (.load 3 (tm 10) none), ow 12 (.call 40 [(tm 11), (kc 1), (kc 4)] 4), ow 13 (.un .not (tm 12))])
 (.ite (tm 13)
 (.seq
 (.ops [ow 2 (.mov (kc 1)), ow 3 (.mov (kc 0)), ow 4 (.mov (kc 7))]) .ret) .skip))
 (.seq
 (.seq
 (.ops [ow 14 (.faddr 25 (tm 1) 1 1), ow 15 (.load 22 (tm 14) none), ow 16 (.len false 22 3 (tm 15)), ow 17 (.call 40 [(tm 16), (kc 1), (kc 3)] 4), ow 18 (.un .not (tm 17))])
 (.ite (tm 18)
 (.seq
 (.ops [ow 2 (.mov (kc 2)), ow 3 (.mov (kc 0)), ow 4 (.mov (kc 3))]) .ret) .skip))
 (.seq
 (.ops [ow 5 (.mov (.const (.slice none 0 0)))])
 (.seq
 (.seq
 (.ops [ow 6 (.mov (kc 0))])
 (.block 0
 (.loop
 (.seq
 (.seq
 (.ops [om 19 6, ow 20 (.faddr 25 (tm 1) 1 1), ow 21 (.load 22 (tm 20) none), ow 22 (.len false 22 3 (tm 21)), ow 23 (.bin .lss 3 (tm 19) (tm 22))])
 (.ite (tm 23) .skip
 (.exit 0)))
 (.seq
 (.block 1
 (.seq
 (.ops [ow 26 (.faddr 25 (tm 1) 1 1), ow 27 (.load 22 (tm 26) none), om 28 6, ow 29 (.iaddr 22 (tm 27) (tm 28) 2), ow 30 (.faddr 125 (tm 29) 0 0), ow 31 (.load 9 (tm 30) none), om 32 5, ow 33 (.call 101 [(tm 31), (tm 32)] 31), om 7 33])
 (.seq
 (.ops [om 34 5, ow 35 (.faddr 25 (tm 1) 1 1), ow 36 (.load 22 (tm 35) none), om 37 6, ow 38 (.iaddr 22 (tm 36) (tm 37) 2), ow 39 (.faddr 125 (tm 38) 0 0), ow 40 (.load 9 (tm 39) none), ow 41 (.bslice 146 1 [(0, (tm 40))] 9 1 [(.string ⟨#[]⟩)]), ow 42 (.append 146 146 (tm 34) (tm 41) 9 1 16 [(.string ⟨#[]⟩)]), om 5 42])
 (.seq
 (.seq
 (.ops [om 43 7, ow 44 (.bin .eql 31 (tm 43) (kc 0))])
 (.ite (tm 44)
 (.dops [(ow 45 (.load 25 (tm 1) (some 3)), []), (ow 46 (.faddr 25 (tm 1) 1 1), []), (ow 47 (.load 22 (tm 46) none), [1]), (om 48 6, []), (ow 49 (.iaddr 22 (tm 47) (tm 48) 2), [2, 3]), (ow 50 (.faddr 125 (tm 49) 1 1), [4]), (ow 51 (.load 123 (tm 50) none), [5]), (ow 52 (.call 102 [(tm 45), (tm 51)] 31), [0, 6]), (om 7 52, [7, 7, 0, 1, 2, 3, 4, 5, 6, 7])]) .skip))
 (.seq
 (.ops [om 53 7, ow 54 (.bin .neq 31 (tm 53) (kc 0))])
 (.ite (tm 54)
 (.seq
 (.ops [om 55 6, om 56 7, ow 2 (.mov (kc 2)), om 3 55, om 4 56]) .ret) .skip))))))
 (.ops [om 24 6, ow 25 (.bin .add 3 (tm 24) (kc 1)), om 6 25]))))))
 (.seq
 (.seq
 (.ops [ow 57 (.faddr 25 (tm 1) 2 2), ow 58 (.load 23 (tm 57) none), ow 59 (.len false 23 3 (tm 58)), ow 60 (.bin .gtr 3 (tm 59) (kc 5))])
 (.ite (tm 60)
 (.seq
 (.ops [ow 2 (.mov (kc 3)), ow 3 (.mov (kc 0)), ow 4 (.mov (kc 3))]) .ret) .skip))
 (.seq
 (.seq
 (.ops [ow 8 (.mov (kc 0))])
 (.block 2
 (.loop
 (.seq
 (.seq
 (.ops [om 61 8, ow 62 (.faddr 25 (tm 1) 2 2), ow 63 (.load 23 (tm 62) none), ow 64 (.len false 23 3 (tm 63)), ow 65 (.bin .lss 3 (tm 61) (tm 64))])
 (.ite (tm 65) .skip
 (.exit 2)))
 (.seq
 (.block 3
 (.seq
 (.dops [(ow 68 (.load 25 (tm 1) (some 3)), []), (ow 69 (.faddr 25 (tm 1) 2 2), []), (ow 70 (.load 23 (tm 69) none), [1]), (om 71 8, []), (ow 72 (.iaddr 23 (tm 70) (tm 71) 2), [2, 3]), (ow 73 (.load 141 (tm 72) (some 2)), [4]), (ow 74 (.call 103 [(tm 68), (tm 73)] 31), [0, 5]), (om 9 74, [6, 6, 0, 1, 2, 3, 4, 5, 6])])
 (.seq
 (.ops [om 75 9, ow 76 (.bin .neq 31 (tm 75) (kc 0))])
 (.ite (tm 76)
 (.seq
 (.ops [om 77 8, om 78 9, ow 2 (.mov (kc 3)), om 3 77, om 4 78]) .ret) .skip))))
 (.ops [om 66 8, ow 67 (.bin .add 3 (tm 66) (kc 1)), om 8 67]))))))
 (.seq
 (.ops [ow 2 (.mov (kc 0)), ow 3 (.mov (kc 0)), ow 4 (.mov (kc 0))]) .ret))))))))
theorem fn56 : FnOK Tryz.prog 56 79 [.tmp 2, .tmp 3, .tmp 4] L56 := ⟨Tryz.f56, Tryz.func56, by kernel_rfl, Tryz.ntmps56, by rw [Tryz.results56], by kernel_rfl⟩
def L57 : LCode :=
 (.seq
 (.ops [ow 3 (.box 29 (tm 0)), ow 4 (.box 49 (tm 1)), ow 6 (.mov (kc 0))])
 (.seq
 (.seq
 (.ops [ow 8 (.faddr 49 (tm 4) 0 0), ow 9 (.load 3 (tm 8) none), ow 10 (.faddr 29 (tm 3) 0 0), ow 11 (.faddr 25 (tm 10) 2 2), ow 12 (.load 23 (tm 11) none), ow 13 (.len false 23 3 (tm 12)), ow 14 (.bin .sub 3 (tm 13) (kc 1)), ow 15 (.call 40 [(tm 9), (kc 0), (tm 14)] 4), ow 16 (.un .not (tm 15)), om 17 16, oz 18 17 (.faddr 49 (tm 4) 1 1), oz 19 17 (.load 3 (tm 18) none), oz 20 17 (.faddr 29 (tm 3) 1 3), oz 21 17 (.load 3 (tm 20) none), oz 22 17 (.bin .sub 3 (tm 21) (kc 1)), oz 23 17 (.call 40 [(tm 19), (kc (-1)), (tm 22)] 4), oz 24 17 (.un .not (tm 23)), ow 25 (.pick (tm 17) (.const (.bool true)) (tm 24)), om 26 25, oz 27 26 (.faddr 49 (tm 4) 3 4), oz 28 26 (.load 3 (tm 27) none), oz 29 26 (.faddr 29 (tm 3) 2 4), oz 30 26 (.load 26 (tm 29) none), oz 31 26 (.len false 26 3 (tm 30)), oz 32 26 (.bin .sub 3 (tm 31) (kc 1)), oz 33 26 (.call 40 [(tm 28), (kc (-1)), (tm 32)] 4), oz 34 26 (.un .not (tm 33)), ow 35 (.pick (tm 26) (.const (.bool true)) (tm 34))])
 (.ite (tm 35)
 (.seq
 (.ops [ow 6 (.mov (kc 4))]) .ret) .skip))
 (.seq
 (.ops [ow 36 (.faddr 49 (tm 4) 2 2), ow 37 (.load 43 (tm 36) (some 2)), ow 38 (.call 104 [(tm 37), (kc 0), (kc 199)] 31), om 7 38])
 (.seq
 (.seq
 (.ops [om 39 7, ow 40 (.bin .eql 31 (tm 39) (kc 0)), om 41 40, oy 42 41 (.faddr 49 (tm 4) 3 4), oy 43 41 (.load 3 (tm 42) none), oy 44 41 (.mov (tm 2)), oy 45 41 (.bin .eql 3 (tm 43) (tm 44)), ow 46 (.pick (tm 41) (tm 45) (.const (.bool false)))])
 (.ite (tm 46)
 (.ops [ow 7 (.mov (kc 2))]) .skip))
 (.seq
 (.ops [om 47 7, om 6 47]) .ret)))))
theorem fn57 : FnOK Tryz.prog 57 48 [.tmp 6] L57 := ⟨Tryz.f57, Tryz.func57, by kernel_rfl, Tryz.ntmps57, by rw [Tryz.results57], by kernel_rfl⟩
def L101 : LCode :=
 (.seq
 (.ops [ow 4 (.mov (kc 0))])
 (.seq
 (.ops [ow 5 (.mov (kc 0))])
 (.seq
 (.seq
 (.ops [om 6 1, om 7 0, ow 8 (.call 130 [(tm 6), (tm 7)] 3), ow 9 (.bin .geq 3 (tm 8) (kc 0))])
 (.ite (tm 9)
 (.ops [ow 5 (.mov (kc 5))]) .skip))
 (.seq
 (.seq
 (.ops [om 10 0, ow 11 (.call 131 [(tm 10)] 4), ow 12 (.un .not (tm 11))])
 (.ite (tm 12)
 (.ops [ow 5 (.mov (kc 6))]) .skip))
 (.seq
 (.ops [om 13 5, om 4 13]) .ret)))))
theorem fn101 : FnOK Tryz.prog 101 14 [.tmp 4] L101 := ⟨Tryz.f101, Tryz.func101, by kernel_rfl, Tryz.ntmps101, by rw [Tryz.results101], by kernel_rfl⟩
def L102 : LCode :=
 (.seq
 (.ops [ow 2 (.box 25 (tm 0)), ow 4 (.mov (kc 0))])
 (.seq
 (.seq
 (.ops [om 7 1, ow 8 (.len false 123 3 (tm 7)), ow 9 (.call 40 [(tm 8), (kc 1), (kc 6)] 4), ow 10 (.un .not (tm 9))])
 (.ite (tm 10)
 (.seq
 (.ops [ow 4 (.mov (kc 3))]) .ret) .skip))
 (.seq
 (.seq
 (.ops [ow 5 (.mov (kc 0))])
 (.block 0
 (.loop
 (.seq
 (.seq
 (.ops [om 11 5, om 12 1, ow 13 (.len false 123 3 (tm 12)), ow 14 (.bin .lss 3 (tm 11) (tm 13))])
 (.ite (tm 14) .skip
 (.exit 0)))
 (.seq
 (.block 1
 (.seq
 (.seq
 (.ops [om 17 1, om 18 5, ow 19 (.iaddr 123 (tm 17) (tm 18) 3), ow 20 (.faddr 131 (tm 19) 0 0), ow 21 (.load 5 (tm 20) none), ow 22 (.toInt .i64 5 3 (tm 21)), ow 23 (.call 40 [(tm 22), (kc 97), (kc 122)] 4), ow 24 (.un .not (tm 23))])
 (.ite (tm 24)
 (.seq
 (.ops [ow 4 (.mov (kc 6))]) .ret) .skip))
 (.seq
 (.seq
 (.ops [ow 6 (.mov (kc 0))])
 (.block 2
 (.loop
 (.seq
 (.seq
 (.ops [om 25 6, om 26 5, ow 27 (.bin .lss 3 (tm 25) (tm 26))])
 (.ite (tm 27) .skip
 (.exit 2)))
 (.seq
 (.block 3
 (.seq
 (.dops [(om 30 1, []), (om 31 6, []), (ow 32 (.iaddr 123 (tm 30) (tm 31) 3), [0, 1]), (ow 33 (.faddr 131 (tm 32) 0 0), [2]), (ow 34 (.load 5 (tm 33) none), [3]), (om 35 1, []), (om 36 5, []), (ow 37 (.iaddr 123 (tm 35) (tm 36) 3), [5, 6]), (ow 38 (.faddr 131 (tm 37) 0 0), [7]), (ow 39 (.load 5 (tm 38) none), [8]), (ow 40 (.bin .eql 5 (tm 34) (tm 39)), [4, 9])])
 (.ite (tm 40)
 (.seq
 (.ops [ow 4 (.mov (kc 5))]) .ret) .skip)))
 (.ops [om 28 6, ow 29 (.bin .add 3 (tm 28) (kc 1)), om 6 29]))))))
 (.seq
 (.seq
 (.dops [(om 41 1, []), (om 42 5, []), (ow 43 (.iaddr 123 (tm 41) (tm 42) 3), [0, 1]), (ow 44 (.faddr 131 (tm 43) 1 1), [2]), (ow 45 (.load 3 (tm 44) none), [3]), (ow 46 (.faddr 25 (tm 2) 0 0), []), (ow 47 (.load 3 (tm 46) none), [5]), (ow 48 (.call 132 [(tm 47)] 3), [6]), (ow 49 (.call 40 [(tm 45), (kc 0), (tm 48)] 4), [4, 7, 7]), (ow 50 (.un .not (tm 49)), [8])])
 (.ite (tm 50)
 (.seq
 (.ops [ow 4 (.mov (kc 7))]) .ret) .skip))
 (.seq
 (.ops [om 51 1, om 52 5, ow 53 (.iaddr 123 (tm 51) (tm 52) 3), ow 54 (.faddr 131 (tm 53) 1 1), ow 55 (.load 3 (tm 54) none), ow 56 (.bin .eql 3 (tm 55) (kc 0)), om 57 56, oy 58 57 (.mov (tm 1)), oy 59 57 (.mov (tm 5)), oy 60 57 (.iaddr 123 (tm 58) (tm 59) 3), oy 61 57 (.faddr 131 (tm 60) 2 2), oy 62 57 (.load 4 (tm 61) none), oy 63 57 (.un .not (tm 62)), ow 64 (.pick (tm 57) (tm 63) (.const (.bool false)))])
 (.ite (tm 64)
 (.seq
 (.ops [ow 4 (.mov (kc 2))]) .ret) .skip))))))
 (.ops [om 15 5, ow 16 (.bin .add 3 (tm 15) (kc 1)), om 5 16]))))))
 (.seq
 (.ops [ow 4 (.mov (kc 0))]) .ret))))
theorem fn102 : FnOK Tryz.prog 102 65 [.tmp 4] L102 := ⟨Tryz.f102, Tryz.func102, by kernel_rfl, Tryz.ntmps102, by rw [Tryz.results102], by kernel_rfl⟩
def L103 : LCode :=
 (.seq
 (.ops [ow 2 (.box 25 (tm 0)), ow 3 (.box 141 (tm 1)), ow 4 (.mov (kc 0))])
 (.seq
 (.seq
 (.ops [ow 6 (.faddr 141 (tm 3) 0 0), ow 7 (.load 3 (tm 6) none), ow 8 (.faddr 25 (tm 2) 1 1), ow 9 (.load 22 (tm 8) none), ow 10 (.len false 22 3 (tm 9)), ow 11 (.bin .sub 3 (tm 10) (kc 1)), ow 12 (.call 40 [(tm 7), (kc 0), (tm 11)] 4), ow 13 (.un .not (tm 12))])
 (.ite (tm 13)
 (.seq
 (.ops [ow 4 (.mov (kc 4))]) .ret) .skip))
 (.seq
 (.seq
 (.ops [ow 14 (.faddr 141 (tm 3) 1 1), ow 15 (.load 9 (tm 14) none), ow 16 (.len true 9 3 (tm 15)), ow 17 (.call 40 [(tm 16), (kc 1), (kc 5)] 4), ow 18 (.un .not (tm 17))])
 (.ite (tm 18)
 (.seq
 (.ops [ow 4 (.mov (kc 3))]) .ret) .skip))
 (.seq
 (.seq
 (.ops [ow 5 (.mov (kc 0))])
 (.block 0
 (.loop
 (.seq
 (.seq
 (.ops [om 19 5, ow 20 (.faddr 141 (tm 3) 1 1), ow 21 (.load 9 (tm 20) none), ow 22 (.len true 9 3 (tm 21)), ow 23 (.bin .lss 3 (tm 19) (tm 22))])
 (.ite (tm 23) .skip
 (.exit 0)))
 (.seq
 (.block 1
 (.seq
 (.dops [(ow 26 (.faddr 25 (tm 2) 1 1), []), (ow 27 (.load 22 (tm 26) none), [0]), (ow 28 (.faddr 141 (tm 3) 0 0), []), (ow 29 (.load 3 (tm 28) none), [2]), (ow 30 (.iaddr 22 (tm 27) (tm 29) 2), [1, 3]), (ow 31 (.load 125 (tm 30) (some 2)), [4]), (ow 32 (.faddr 141 (tm 3) 1 1), []), (ow 33 (.load 9 (tm 32) none), [6]), (om 34 5, []), (ow 35 (.indexS 9 (tm 33) (tm 34)), [7, 8]), (ow 36 (.call 133 [(tm 31), (tm 35)] 3), [5, 9]), (ow 37 (.bin .lss 3 (tm 36) (kc 0)), [10])])
 (.ite (tm 37)
 (.seq
 (.ops [ow 4 (.mov (kc 6))]) .ret) .skip)))
 (.ops [om 24 5, ow 25 (.bin .add 3 (tm 24) (kc 1)), om 5 25]))))))
 (.seq
 (.ops [ow 4 (.mov (kc 0))]) .ret)))))
theorem fn103 : FnOK Tryz.prog 103 38 [.tmp 4] L103 := ⟨Tryz.f103, Tryz.func103, by kernel_rfl, Tryz.ntmps103, by rw [Tryz.results103], by kernel_rfl⟩
def L104 : LCode :=
 (.seq
 (.ops [ow 3 (.box 43 (tm 0)), ow 6 (.mov (kc 0))])
 (.seq
 (.seq
 (.ops [ow 7 (.faddr 43 (tm 3) 0 0), ow 8 (.load 3 (tm 7) none), om 9 1, om 10 2, ow 11 (.call 40 [(tm 8), (tm 9), (tm 10)] 4), ow 12 (.un .not (tm 11)), om 13 12, oz 14 13 (.faddr 43 (tm 3) 1 1), oz 15 13 (.load 3 (tm 14) none), oz 16 13 (.mov (tm 1)), oz 17 13 (.mov (tm 2)), oz 18 13 (.call 40 [(tm 15), (tm 16), (tm 17)] 4), oz 19 13 (.un .not (tm 18)), ow 20 (.pick (tm 13) (.const (.bool true)) (tm 19))])
 (.ite (tm 20)
 (.seq
 (.ops [ow 6 (.mov (kc 7))]) .ret) .skip))
 (.seq
 (.seq
 (.ops [ow 21 (.faddr 43 (tm 3) 1 1), ow 22 (.load 3 (tm 21) none), ow 23 (.faddr 43 (tm 3) 0 0), ow 24 (.load 3 (tm 23) none), ow 25 (.bin .lss 3 (tm 22) (tm 24))])
 (.ite (tm 25)
 (.seq
 (.ops [ow 6 (.mov (kc 2))]) .ret) .skip))
 (.seq
 (.ops [ow 6 (.mov (kc 0))]) .ret))))
theorem fn104 : FnOK Tryz.prog 104 26 [.tmp 6] L104 := ⟨Tryz.f104, Tryz.func104, by kernel_rfl, Tryz.ntmps104, by rw [Tryz.results104], by kernel_rfl⟩
def L130 : LCode :=
 (.seq
 (.ops [ow 4 (.mov (kc 0))])
 (.seq
 (.ops [ow 5 (.mov (kc 0))])
 (.seq
 (.block 0
 (.loop
 (.seq
 (.seq
 (.ops [om 6 5, om 7 0, ow 8 (.len false 146 3 (tm 7)), ow 9 (.bin .lss 3 (tm 6) (tm 8)), om 10 9, oy 11 10 (.mov (tm 0)), oy 12 10 (.mov (tm 5)), oy 13 10 (.iaddr 146 (tm 11) (tm 12) 1), oy 14 10 (.load 9 (tm 13) none), oy 15 10 (.mov (tm 1)), oy 16 10 (.bin .neq 9 (tm 14) (tm 15)), ow 17 (.pick (tm 10) (tm 16) (.const (.bool false)))])
 (.ite (tm 17) .skip
 (.exit 0)))
 (.block 1
 (.ops [om 18 5, ow 19 (.bin .add 3 (tm 18) (kc 1)), om 5 19])))))
 (.seq
 (.seq
 (.ops [om 20 5, om 21 0, ow 22 (.len false 146 3 (tm 21)), ow 23 (.bin .eql 3 (tm 20) (tm 22))])
 (.ite (tm 23)
 (.seq
 (.ops [ow 4 (.mov (kc (-1)))]) .ret) .skip))
 (.seq
 (.ops [om 24 5, om 4 24]) .ret)))))
theorem fn130 : FnOK Tryz.prog 130 25 [.tmp 4] L130 := ⟨Tryz.f130, Tryz.func130, by kernel_rfl, Tryz.ntmps130, by rw [Tryz.results130], by kernel_rfl⟩
def L131 : LCode :=
 (.seq
 (.ops [ow 2 (.mov (.const (.bool false)))])
 (.seq
 (.ops [om 6 0, ow 7 (.len true 9 3 (tm 6)), ow 8 (.call 40 [(tm 7), (kc 1), (kc 16)] 4), om 3 8])
 (.seq
 (.seq
 (.ops [ow 4 (.mov (kc 0))])
 (.block 0
 (.loop
 (.seq
 (.seq
 (.ops [om 9 4, om 10 0, ow 11 (.len true 9 3 (tm 10)), ow 12 (.bin .lss 3 (tm 9) (tm 11))])
 (.ite (tm 12) .skip
 (.exit 0)))
 (.seq
 (.block 1
 (.seq
 (.ops [om 15 4, ow 16 (.bin .gtr 3 (tm 15) (kc 0)), om 17 16, oy 18 17 (.mov (tm 0)), oy 19 17 (.mov (tm 4)), oy 20 17 (.indexS 9 (tm 18) (tm 19)), oy 21 17 (.bin .eql 5 (tm 20) (.const (.int .u8 46))), oy 22 17 (.mov (tm 21)), oz 23 22 (.mov (tm 0)), oz 24 22 (.mov (tm 4)), oz 25 22 (.indexS 9 (tm 23) (tm 24)), oz 26 22 (.toInt .i64 5 3 (tm 25)), oz 27 22 (.call 40 [(tm 26), (kc 48), (kc 57)] 4), oy 28 17 (.pick (tm 22) (.const (.bool true)) (tm 27)), ow 29 (.pick (tm 17) (tm 28) (.const (.bool false))), om 5 29])
 (.ops [om 30 3, om 31 30, oy 32 31 (.mov (tm 0)), oy 33 31 (.mov (tm 4)), oy 34 31 (.indexS 9 (tm 32) (tm 33)), oy 35 31 (.toInt .i64 5 3 (tm 34)), oy 36 31 (.call 40 [(tm 35), (kc 97), (kc 122)] 4), oy 37 31 (.mov (tm 36)), oz 38 37 (.mov (tm 5)), oy 39 31 (.pick (tm 37) (.const (.bool true)) (tm 38)), ow 40 (.pick (tm 31) (tm 39) (.const (.bool false))), om 3 40])))
 (.ops [om 13 4, ow 14 (.bin .add 3 (tm 13) (kc 1)), om 4 14]))))))
 (.seq
 (.ops [om 41 3, om 2 41]) .ret))))
theorem fn131 : FnOK Tryz.prog 131 42 [.tmp 2] L131 := ⟨Tryz.f131, Tryz.func131, by kernel_rfl, Tryz.ntmps131, by rw [Tryz.results131], by kernel_rfl⟩
def L132 : LCode :=
 (.seq
 (.ops [ow 2 (.mov (kc 0))])
 (.seq
 (.ops [ow 3 (.mov (kc 0))])
 (.seq
 (.seq
 (.ops [ow 4 (.mov (kc 0))])
 (.block 0
 (.loop
 (.seq
 (.seq
 (.ops [om 5 4, om 6 0, ow 7 (.bin .lss 3 (tm 5) (tm 6))])
 (.ite (tm 7) .skip
 (.exit 0)))
 (.seq
 (.block 1
 (.ops [om 10 3, ow 11 (.bin .mul 3 (kc 2) (tm 10)), ow 12 (.bin .add 3 (tm 11) (kc 1)), om 3 12]))
 (.ops [om 8 4, ow 9 (.bin .add 3 (tm 8) (kc 1)), om 4 9]))))))
 (.seq
 (.ops [om 13 3, om 2 13]) .ret))))
theorem fn132 : FnOK Tryz.prog 132 14 [.tmp 2] L132 := ⟨Tryz.f132, Tryz.func132, by kernel_rfl, Tryz.ntmps132, by rw [Tryz.results132], by kernel_rfl⟩
def L133 : LCode :=
 (.seq
 (.ops [ow 2 (.box 125 (tm 0)), ow 4 (.mov (kc 0))])
 (.seq
 (.seq
 (.ops [ow 5 (.mov (kc 0))])
 (.block 0
 (.loop
 (.seq
 (.seq
 (.ops [om 6 5, ow 7 (.faddr 125 (tm 2) 1 1), ow 8 (.load 123 (tm 7) none), ow 9 (.len false 123 3 (tm 8)), ow 10 (.bin .lss 3 (tm 6) (tm 9))])
 (.ite (tm 10) .skip
 (.exit 0)))
 (.seq
 (.block 1
 (.seq
 (.ops [ow 13 (.faddr 125 (tm 2) 1 1), ow 14 (.load 123 (tm 13) none), om 15 5, ow 16 (.iaddr 123 (tm 14) (tm 15) 3), ow 17 (.faddr 131 (tm 16) 0 0), ow 18 (.load 5 (tm 17) none), om 19 1, ow 20 (.bin .eql 5 (tm 18) (tm 19))])
 (.ite (tm 20)
 (.seq
 (.ops [om 21 5, om 4 21]) .ret) .skip)))
 (.ops [om 11 5, ow 12 (.bin .add 3 (tm 11) (kc 1)), om 5 12]))))))
 (.seq
 (.ops [ow 4 (.mov (kc (-1)))]) .ret)))
theorem fn133 : FnOK Tryz.prog 133 22 [.tmp 4] L133 := ⟨Tryz.f133, Tryz.func133, by kernel_rfl, Tryz.ntmps133, by rw [Tryz.results133], by kernel_rfl⟩
end Go.Px

namespace Go.Px
open Go.Proofs
theorem in_ev (n lo hi : Int) : Ev Tryz.prog 40 [I n, I lo, I hi] (B (decide (lo ≤ n) && decide (n ≤ hi))) := by
  refine Ev.intro fn40 ?_
  refine LWp.sx (gs := []) (hs := []) rfl trivial ?_
  by_cases h : lo ≤ n
  · refine LWp.sx (gs := [(10, true)]) (hs := []) rfl (by simp [h]) ?_
    refine LWp.ret (retT (.inr rfl) (.one (.tmp ?_ rfl)))
    show B _ = B _
    simp [h]
  · refine LWp.sx (gs := [(10, false)]) (hs := []) rfl (by simp [h]) ?_
    refine LWp.ret (retT (.inr rfl) (.one (.tmp ?_ rfl)))
    show B _ = B _
    simp [h]
end Go.Px

namespace Go.Px
open Go.Proofs
abbrev strs (l : List (List UInt8)) : AV := .sl 1 (l.map fun s => [Str s])
theorem inB_not (n lo hi : Int) : (!(decide (lo ≤ n) && decide (n ≤ hi))) = beyondB lo hi [n] := by
  rw [Bool.eq_iff_iff]; simp [beyondB]
theorem rname_ev (l : List UInt8) (hl : l.length ≤ 9223372036854775807) : Ev Tryz.prog 131 [Str l] (B (nameB l)) := by
  refine Ev.intro fn131 ?_
  refine LWp.sx (gs := []) (hs := []) rfl trivial ?_
  refine LWp.sx (gs := []) (hs := [.ret (B (decide (1 ≤ (l.length : Int)) && decide ((l.length : Int) ≤ 16)))]) rfl ⟨in_ev _ 1 16, trivial⟩ ?_
  refine LWp.seq (LWp.seq ?_)
  refine LWp.x (gs := []) (hs := []) rfl trivial ?_
  generalize hF : (decide (1 ≤ (l.length : Int)) && decide ((l.length : Int) ≤ 16)) = F
  have hnb : nameB l = (allN l 0 && F) := by
    unfold nameB
    rw [← hF]
    congr 1
    rw [Bool.eq_iff_iff]; simp; omega
  refine LWp.blockT (fun _ : Unit => True) (fun _ => el [(3, B (nameB l))]) (fun _ => []) (fun _ => []) ?_ ?_
  · refine LWp.loopN (X := Nat × Bool) (fun x => x.1 ≤ l.length ∧ nameB l = (allN (l.drop x.1) x.1 && x.2)) (fun x => el [(0, Str l), (3, B x.2), (4, I x.1)]) (fun _ => []) (fun _ => []) (fun x => l.length - x.1) (0, F) ⟨by simp, hnb⟩
      (Ent.el ⟨rfl, rfl, rfl, trivial⟩) ?_
    rintro ⟨k, f⟩ ⟨hk, hi⟩
    simp only at hk hi ⊢
    refine LWp.seq (LWp.seq ?_)
    refine LWp.x (gs := []) (hs := []) rfl trivial ?_
    refine LWp.ite rfl (fun hc => ?_) (fun hc => ?_)
    · simp only [decide_eq_true_eq] at hc
      have hc' : k < l.length := by have : ((k : Int) < (l.length : Int)) := hc; omega
      obtain ⟨c, hx⟩ := ex_get hc'
      rw [drop_cons hx, allN] at hi
      have hby : (⟨l.toArray⟩ : ByteArray).data.toList[((k : Nat) : Int).toNat]? = some c := by simpa using hx
      have hco : ∀ m : Int, IntKind.i64.wrap ((c.toNat : Nat) : Int) = c.toNat := by
        intro _
        exact i64_wrap (by omega) (by have := c.toNat_lt; omega)
      refine LWp.skip ?_
      refine LWp.blockX (fun _ : Unit => True) (fun _ => el [(0, Str l), (3, B (f && okc k c.toNat)), (4, I k)]) (fun _ => []) (fun _ => []) ?_ ?_
      · refine LWp.cutX (fun _ : Unit => True) (fun _ => el [(0, Str l), (3, B f), (4, I k), (5, B (decide (0 < k) && (c.toNat == 46 || (decide (48 ≤ c.toNat) && decide (c.toNat ≤ 57)))))]) (fun _ => []) (fun _ => []) ?_ ?_
        · by_cases h0 : 0 < k
          · by_cases h1 : c.toNat = 46
            · refine LWp.x (gs := [(17, true), (22, true)]) (hs := [.byte c]) rfl (by simp [h0, h1, hx]) ?_
              exact ⟨(), trivial, Ent.el ⟨rfl, rfl, rfl, by show B _ = B _; simp [h0, h1], trivial⟩⟩
            · have h1' : ¬ ((c.toNat : Int) = 46) := by omega
              refine LWp.x (gs := [(17, true), (22, false)]) (hs := [.byte c, .byte c, .ret (B (decide ((48 : Int) ≤ c.toNat) && decide ((c.toNat : Int) ≤ 57)))]) rfl (by simp [h0, h1', hx]; exact ⟨hco 0, in_ev _ 48 57⟩) ?_
              refine ⟨(), trivial, Ent.el ⟨rfl, rfl, rfl, ?_, trivial⟩⟩
              show B _ = B _
              have e : (decide ((48 : Int) ≤ c.toNat) && decide ((c.toNat : Int) ≤ 57)) = (decide (48 ≤ c.toNat) && decide (c.toNat ≤ 57)) := by rw [Bool.eq_iff_iff]; simp; omega
              rw [e]; simp [h0, h1]
          · have h0' : k = 0 := by omega
            subst h0'
            refine LWp.x (gs := [(17, false)]) (hs := []) rfl (by simp) ?_
            exact ⟨(), trivial, Ent.el ⟨rfl, rfl, rfl, by show B _ = B _; simp, trivial⟩⟩
        intro _ _
        generalize hg : (decide (0 < k) && (c.toNat == 46 || (decide (48 ≤ c.toNat) && decide (c.toNat ≤ 57)))) = g
        have hok : okc k c.toNat = ((decide (97 ≤ c.toNat) && decide (c.toNat ≤ 122)) || g) := by rw [← hg]; rfl
        cases f with
        | false =>
          refine LWp.x (gs := [(31, false)]) (hs := []) rfl (by simp) ?_
          exact ⟨(), trivial, Ent.el ⟨rfl, by show B _ = B _; simp, rfl, trivial⟩⟩
        | true =>
          have e : (decide ((97 : Int) ≤ c.toNat) && decide ((c.toNat : Int) ≤ 122)) = (decide (97 ≤ c.toNat) && decide (c.toNat ≤ 122)) := by rw [Bool.eq_iff_iff]; simp; omega
          rw [← e] at hok
          generalize hq : (decide ((97 : Int) ≤ c.toNat) && decide ((c.toNat : Int) ≤ 122)) = q at hok
          have hin : Ev Tryz.prog 40 [I c.toNat, I 97, I 122] (B q) := by rw [← hq]; exact in_ev _ 97 122
          cases q with
          | true =>
            refine LWp.x (gs := [(31, true), (37, true)]) (hs := [.byte c, .ret (B true)]) rfl (by simp [hx]; exact ⟨hco 0, hin⟩) ?_
            exact ⟨(), trivial, Ent.el ⟨rfl, by show B _ = B _; simp [hok], rfl, trivial⟩⟩
          | false =>
            refine LWp.x (gs := [(31, true), (37, false)]) (hs := [.byte c, .ret (B false)]) rfl (by simp [hx]; exact ⟨hco 0, hin⟩) ?_
            exact ⟨(), trivial, Ent.el ⟨rfl, by show B _ = B _; simp [hok], rfl, trivial⟩⟩
      intro _ _
      refine LWp.x (gs := []) (hs := []) rfl ⟨by omega, trivial⟩ ?_
      refine ⟨(k + 1, f && okc k c.toNat), ⟨hc', ?_⟩, by simp only; omega, Ent.el ⟨rfl, rfl, rfl, trivial⟩⟩
      rw [hi]
      cases f <;> cases okc k c.toNat <;> simp
    · simp only [decide_eq_false_iff_not] at hc
      have hc' : ¬ k < l.length := by have : ¬ ((k : Int) < (l.length : Int)) := hc; omega
      have hf : nameB l = f := by rw [hi, drop_nil hc']; simp [allN]
      exact LWp.exit ⟨(), trivial, Ent.el ⟨by rw [hf]; rfl, trivial⟩⟩
  · intro _ _
    refine LWp.sx (gs := []) (hs := []) rfl trivial ?_
    refine LWp.ret (retT (.inr rfl) (.one (.tmp ?_ rfl)))
    rfl
theorem where_ev (l : List (List UInt8)) (s : List UInt8) : Ev Tryz.prog 130 [strs l, Str s] (I (idxF (fun x => x == s) l 0)) := by
  refine Ev.intro fn130 ?_
  refine LWp.slLen 0 rfl fun ha => ?_
  simp only [List.length_map] at ha
  refine LWp.sx (gs := []) (hs := []) rfl trivial ?_
  refine LWp.sx (gs := []) (hs := []) rfl trivial ?_
  refine LWp.blockX (fun k : Nat => k ≤ l.length ∧ idxF (fun x => x == s) l 0 = if k = l.length then -1 else (k : Int)) (fun k => el [(0, strs l), (5, I k)]) (fun _ => []) (fun _ => []) ?_ ?_
  · refine LWp.loopN (fun k : Nat => k ≤ l.length ∧ idxF (fun x => x == s) l 0 = idxF (fun x => x == s) (l.drop k) k) (fun k => el [(0, strs l), (1, Str s), (5, I k)]) (fun _ => []) (fun _ => []) (fun k => l.length - k) 0 ⟨by omega, rfl⟩
      (Ent.el ⟨rfl, rfl, rfl, trivial⟩) ?_
    rintro k ⟨hk, hi⟩
    refine LWp.seq (LWp.seq ?_)
    by_cases hc : k < l.length
    · obtain ⟨x, hx⟩ := ex_get hc
      rw [drop_cons hx, idxF] at hi
      refine LWp.x (gs := [(10, true)]) (hs := [.cells [Str x]]) rfl (by simp [hc, (List.getElem?_eq_some_iff.1 hx).2]) ?_
      refine LWp.ite rfl (fun hb => ?_) (fun hb => ?_)
      · have hne : ¬ ((x == s) = true) := by
          have hb : (!((⟨x.toArray⟩ : ByteArray).toList == (⟨s.toArray⟩ : ByteArray).toList)) = true := hb
          intro h
          rw [eq_of_beq h] at hb
          simp at hb
        rw [if_neg hne] at hi
        refine LWp.skip (LWp.block ?_)
        refine LWp.x (gs := []) (hs := []) rfl ⟨by omega, trivial⟩ ?_
        exact ⟨k + 1, ⟨hc, hi⟩, by omega, Ent.el ⟨rfl, rfl, rfl, trivial⟩⟩
      · have heq : (x == s) = true := by
          have hb : (!((⟨x.toArray⟩ : ByteArray).toList == (⟨s.toArray⟩ : ByteArray).toList)) = false := hb
          simp at hb
          simpa using hb
        rw [if_pos heq] at hi
        exact LWp.exit ⟨k, ⟨hk, by rw [hi, if_neg (by omega)]⟩, Ent.el ⟨rfl, rfl, trivial⟩⟩
    · rw [drop_nil hc] at hi
      refine LWp.x (gs := [(10, false)]) (hs := []) rfl (by simp [hc]) ?_
      refine LWp.ite (b := false) rfl (fun hb => by cases hb) (fun hb => ?_)
      exact LWp.exit ⟨k, ⟨hk, by rw [hi, if_pos (by omega)]; rfl⟩, Ent.el ⟨rfl, rfl, trivial⟩⟩
  · rintro k ⟨hk, hi⟩
    refine LWp.seq (LWp.seq ?_)
    refine LWp.x (gs := []) (hs := []) rfl trivial ?_
    refine LWp.ite rfl (fun hb => ?_) (fun hb => ?_)
    · simp only [List.length_map, beq_iff_eq, Int.natCast_inj] at hb
      refine LWp.sx (gs := []) (hs := []) rfl trivial ?_
      refine LWp.ret (retT (.inr rfl) (.one (.tmp ?_ rfl)))
      rw [hi, if_pos hb]; rfl
    · simp only [List.length_map, beq_eq_false_iff_ne, ne_eq, Int.natCast_inj] at hb
      refine LWp.skip ?_
      refine LWp.sx (gs := []) (hs := []) rfl trivial ?_
      refine LWp.ret (retT (.inr rfl) (.one (.tmp ?_ rfl)))
      rw [hi, if_neg hb]; rfl
def freshE (s : List UInt8) (l : List (List UInt8)) : Int := if nameB s = true then (if l.any (fun x => x == s) = true then 5 else 0) else 6
theorem fresh_ev (s : List UInt8) (hl : s.length ≤ 9223372036854775807) (l : List (List UInt8)) : Ev Tryz.prog 101 [Str s, strs l] (I (freshE s l)) := by
  refine Ev.intro fn101 ?_
  refine LWp.sx (gs := []) (hs := []) rfl trivial ?_
  refine LWp.sx (gs := []) (hs := []) rfl trivial ?_
  refine LWp.cutX (fun _ : Unit => True) (fun _ => el [(0, Str s), (5, I (if l.any (fun x => x == s) = true then 5 else 0))]) (fun _ => []) (fun _ => []) ?_ ?_
  · refine LWp.sx (gs := []) (hs := [.ret (I (idxF (fun x => x == s) l 0))]) rfl ⟨where_ev l s, trivial⟩ ?_
    have hg := idxF_ge (fun x => x == s) l 0 (by omega)
    refine LWp.ite rfl (fun hb => ?_) (fun hb => ?_)
    · rw [hg] at hb
      refine LWp.x (gs := []) (hs := []) rfl trivial ?_
      exact ⟨(), trivial, Ent.el ⟨rfl, by rw [hb]; rfl, trivial⟩⟩
    · rw [hg] at hb
      exact LWp.skip ⟨(), trivial, Ent.el ⟨rfl, by rw [hb]; rfl, trivial⟩⟩
  intro _ _
  refine LWp.cutX (fun _ : Unit => True) (fun _ => el [(5, I (freshE s l))]) (fun _ => []) (fun _ => []) ?_ ?_
  · refine LWp.sx (gs := []) (hs := [.ret (B (nameB s))]) rfl ⟨rname_ev s hl, trivial⟩ ?_
    refine LWp.ite rfl (fun hb => ?_) (fun hb => ?_)
    · simp only [Bool.not_eq_true'] at hb
      refine LWp.x (gs := []) (hs := []) rfl trivial ?_
      exact ⟨(), trivial, Ent.el ⟨by simp only [freshE, hb, Bool.false_eq_true, if_false]; rfl, trivial⟩⟩
    · simp only [Bool.not_eq_false'] at hb
      exact LWp.skip ⟨(), trivial, Ent.el ⟨by simp only [freshE, hb, if_true]; rfl, trivial⟩⟩
  intro _ _
  refine LWp.sx (gs := []) (hs := []) rfl trivial ?_
  refine LWp.ret (retT (.inr rfl) (.one (.tmp ?_ rfl)))
  rfl
theorem all_ev (n : Int) (h0 : 0 ≤ n) (h1 : n < 62) : Ev Tryz.prog 132 [I n] (I (2 ^ n.toNat - 1)) := by
  refine Ev.intro fn132 ?_
  refine LWp.sx (gs := []) (hs := []) rfl trivial ?_
  refine LWp.sx (gs := []) (hs := []) rfl trivial ?_
  refine LWp.seq (LWp.seq ?_)
  refine LWp.x (gs := []) (hs := []) rfl trivial ?_
  refine LWp.blockT (fun _ : Unit => True) (fun _ => el [(3, I (2 ^ n.toNat - 1))]) (fun _ => []) (fun _ => []) ?_ ?_
  · refine LWp.loopN (fun k : Nat => k ≤ n.toNat) (fun k => el [(0, I n), (3, I (2 ^ k - 1)), (4, I k)]) (fun _ => []) (fun _ => []) (fun k => n.toNat - k) 0 (by omega)
      (Ent.el ⟨rfl, rfl, rfl, trivial⟩) ?_
    intro k hk
    have hp := pow2_le (k := k) (by omega)
    have hp0 : (0 : Int) < 2 ^ k := Int.pow_pos (by omega)
    refine LWp.seq (LWp.seq ?_)
    refine LWp.x (gs := []) (hs := []) rfl trivial ?_
    refine LWp.ite rfl (fun hc => ?_) (fun hc => ?_)
    · simp only [decide_eq_true_eq] at hc
      refine LWp.skip (LWp.seq (LWp.block ?_))
      refine LWp.x (gs := []) (hs := []) rfl ⟨by omega, by omega, trivial⟩ ?_
      refine LWp.x (gs := []) (hs := []) rfl ⟨by omega, trivial⟩ ?_
      refine ⟨k + 1, by omega, by omega, Ent.el ⟨rfl, ?_, rfl, trivial⟩⟩
      show I _ = I _
      congr 2
      rw [Int.pow_succ]; omega
    · simp only [decide_eq_false_iff_not] at hc
      refine LWp.exit ⟨(), trivial, Ent.el ⟨?_, trivial⟩⟩
      rw [show n.toNat = k by omega]; rfl
  · intro _ _
    refine LWp.sx (gs := []) (hs := []) rfl trivial ?_
    refine LWp.ret (retT (.inr rfl) (.one (.tmp ?_ rfl)))
    rfl
theorem rletter_ev (a : Alph) (c : Int) (hl : a.ls.length ≤ 1000) : Ev Tryz.prog 133 [.agg a.enc, U c] (I (indexC a.ls c)) := by
  refine Ev.intro fn133 ?_
  refine LWp.sx (gs := []) (hs := [.ice]) rfl ⟨⟨rfl, rfl⟩, trivial⟩ ?_
  refine LWp.seq (LWp.seq ?_)
  refine LWp.x (gs := []) (hs := []) rfl trivial ?_
  refine LWp.blockT (fun _ : Unit => indexC a.ls c = -1) (fun _ => el []) (fun _ => []) (fun _ => []) ?_ ?_
  · refine LWp.loopN (fun k : Nat => k ≤ a.ls.length ∧ indexC a.ls c = idxF (fun x => x.c == c) (a.ls.drop k) k) (fun k => el [(1, U c), (2, .pi a.enc), (5, I k)]) (fun _ => []) (fun _ => []) (fun k => a.ls.length - k) 0 ⟨by omega, rfl⟩
      (Ent.el ⟨rfl, rfl, rfl, trivial⟩) ?_
    rintro k ⟨hk, hi⟩
    refine LWp.seq (LWp.seq ?_)
    refine LWp.x (gs := []) (hs := []) rfl trivial ?_
    refine LWp.ite rfl (fun hc => ?_) (fun hc => ?_)
    · simp only [List.length_map, decide_eq_true_eq, Int.ofNat_lt] at hc
      obtain ⟨x, hx⟩ := ex_get hc
      rw [drop_cons hx, idxF] at hi
      refine LWp.skip (LWp.seq (LWp.block ?_))
      refine LWp.seq ?_
      refine LWp.x (gs := []) (hs := [.cells x.enc]) rfl ⟨⟨by omega, by simp [hx]⟩, trivial⟩ ?_
      refine LWp.ite rfl (fun hb => ?_) (fun hb => ?_)
      · refine LWp.sx (gs := []) (hs := []) rfl trivial ?_
        refine LWp.ret (retT (.inr rfl) (.one (.tmp ?_ rfl)))
        rw [hi, if_pos hb]; rfl
      · rw [if_neg (by rw [hb]; simp)] at hi
        refine LWp.skip ?_
        refine LWp.x (gs := []) (hs := []) rfl ⟨by omega, trivial⟩ ?_
        exact ⟨k + 1, ⟨hc, hi⟩, by omega, Ent.el ⟨rfl, rfl, rfl, trivial⟩⟩
    · simp only [List.length_map, decide_eq_false_iff_not, Int.ofNat_lt] at hc
      rw [drop_nil hc] at hi
      exact LWp.exit ⟨(), hi, Ent.el trivial⟩
  · intro _ h
    refine LWp.sx (gs := []) (hs := []) rfl trivial ?_
    refine LWp.ret (retT (.inr rfl) (.one (.tmp ?_ rfl)))
    rw [h]; rfl
end Go.Px

namespace Go.Px
open Go.Proofs
def lettersE (n : Int) (l : List Letter) : Int := if beyondB 1 6 [(l.length : Int)] = true then 3 else (failF (letterErr n l) l.length 0).2
theorem failF_step {f : Nat → Int} {n k : Nat} (h : k < n) : (failF f (n - k) k) = if f k = 0 then failF f (n - (k + 1)) (k + 1) else ((k : Int), f k) := by
  rw [show n - k = (n - (k + 1)) + 1 by omega, failF]
theorem letters_ev (b : Book) (h0 : 0 ≤ b.n) (h1 : b.n < 62) (l : List Letter) (hw : ∀ x ∈ l, x.wf) : Ev Tryz.prog 102 [.agg b.enc, letters l] (I (lettersE b.n l)) := by
  refine Ev.intro fn102 ?_
  refine LWp.slLen 1 rfl fun hll => ?_
  simp only [List.length_map] at hll
  refine LWp.sx (gs := []) (hs := [.ice]) rfl ⟨⟨rfl, rfl⟩, trivial⟩ ?_
  refine LWp.seq (LWp.seq ?_)
  have hin := in_ev ((l.map Letter.enc).length : Int) 1 6
  refine LWp.x (gs := []) (hs := [.ret (B (decide (1 ≤ ((l.map Letter.enc).length : Int)) && decide (((l.map Letter.enc).length : Int) ≤ 6)))]) rfl ⟨hin, trivial⟩ ?_
  refine LWp.ite rfl (fun hc => ?_) (fun hc => ?_)
  · rw [inB_not, List.length_map] at hc
    refine LWp.sx (gs := []) (hs := []) rfl trivial ?_
    refine LWp.ret (retT (.inr rfl) (.one (.tmp ?_ rfl)))
    show I _ = I _
    simp only [lettersE, hc, if_true]
  rw [inB_not, List.length_map] at hc
  have hL : lettersE b.n l = (failF (letterErr b.n l) l.length 0).2 := by simp only [lettersE, hc, if_false, Bool.false_eq_true]
  rw [hL]
  refine LWp.skip ?_
  refine LWp.seq (LWp.seq ?_)
  refine LWp.x (gs := []) (hs := []) rfl trivial ?_
  refine LWp.blockT (fun _ : Unit => (failF (letterErr b.n l) l.length 0).2 = 0) (fun _ => el []) (fun _ => []) (fun _ => []) ?_ ?_
  · refine LWp.loopN (fun k : Nat => k ≤ l.length ∧ failF (letterErr b.n l) l.length 0 = failF (letterErr b.n l) (l.length - k) k) (fun k => el [(1, letters l), (2, .pi b.enc), (5, I k)]) (fun _ => []) (fun _ => []) (fun k => l.length - k) 0 ⟨by omega, rfl⟩
      (Ent.el ⟨rfl, rfl, rfl, trivial⟩) ?_
    rintro k ⟨hk, hi⟩
    refine LWp.seq (LWp.seq ?_)
    refine LWp.x (gs := []) (hs := []) rfl trivial ?_
    refine LWp.ite rfl (fun hc => ?_) (fun hc => ?_)
    · simp only [List.length_map, decide_eq_true_eq, Int.ofNat_lt] at hc
      obtain ⟨x, hx⟩ := ex_get hc
      obtain ⟨w0, w1, w2, w3⟩ := hw x (List.mem_of_getElem? hx)
      rw [failF_step hc] at hi
      have hle : letterErr b.n l k = if beyondB 97 122 [x.c] = true then 6 else if decide (indexC (l.take k) x.c ≥ 0) = true then 5 else if beyondB 0 (2 ^ b.n.toNat - 1) [x.s] = true then 7 else if (x.s == 0 && !x.q) = true then 2 else 0 := by
        simp only [letterErr, hx]
      have err : ∀ e : Int, e ≠ 0 → letterErr b.n l k = e → (failF (letterErr b.n l) l.length 0).2 = e := by
        intro e h1 h2
        rw [hi, h2, if_neg h1]
      have hwr : IntKind.i64.wrap x.c = x.c := i64_wrap (by omega) (by omega)
      refine LWp.skip ?_
      refine LWp.blockX (fun _ : Unit => letterErr b.n l k = 0) (fun _ => el [(1, letters l), (2, .pi b.enc), (5, I k)]) (fun _ => []) (fun _ => []) ?_ ?_
      · refine LWp.seq (LWp.seq ?_)
        refine LWp.x (gs := []) (hs := [.cells x.enc, .ret (B (decide (97 ≤ x.c) && decide (x.c ≤ 122)))]) rfl ⟨⟨by omega, by simp [hx]⟩, hwr, in_ev _ 97 122, trivial⟩ ?_
        refine LWp.ite rfl (fun hb => ?_) (fun hb => ?_)
        · rw [inB_not] at hb
          rw [if_pos hb] at hle
          refine LWp.sx (gs := []) (hs := []) rfl trivial ?_
          refine LWp.ret (retT (.inr rfl) (.one (.tmp ?_ rfl)))
          rw [err 6 (by decide) hle]; rfl
        rw [inB_not] at hb
        rw [if_neg (by rw [hb]; simp)] at hle
        refine LWp.skip ?_
        refine LWp.seq (LWp.seq ?_)
        refine LWp.x (gs := []) (hs := []) rfl trivial ?_
        refine LWp.blockT (fun _ : Unit => ¬ indexC (l.take k) x.c ≥ 0) (fun _ => el [(1, letters l), (2, .pi b.enc), (5, I k)]) (fun _ => []) (fun _ => []) ?_ ?_
        · refine LWp.loopN (fun j : Nat => j ≤ k ∧ ∀ y ∈ l.take j, y.c ≠ x.c) (fun j => el [(1, letters l), (2, .pi b.enc), (5, I k), (6, I j)]) (fun _ => []) (fun _ => []) (fun j => k - j) 0 ⟨by omega, by simp⟩
            (Ent.el ⟨rfl, rfl, rfl, rfl, trivial⟩) ?_
          rintro j ⟨hj, hall⟩
          refine LWp.seq (LWp.seq ?_)
          refine LWp.x (gs := []) (hs := []) rfl trivial ?_
          refine LWp.ite rfl (fun hd => ?_) (fun hd => ?_)
          · simp only [decide_eq_true_eq, Int.ofNat_lt] at hd
            have hjl : j < l.length := by omega
            obtain ⟨y, hy⟩ := ex_get hjl
            refine LWp.skip (LWp.seq (LWp.block ?_))
            refine LWp.seq ?_
            refine LWp.dd (gs := []) (hs := [.cells y.enc, .cells x.enc]) hmix rfl (by kernel_rfl) ⟨⟨by omega, by simp [hy]⟩, ⟨by omega, by simp [hx]⟩, trivial⟩ ?_
            refine LWp.ite rfl (fun he => ?_) (fun he => ?_)
            · simp only [beq_iff_eq] at he
              have hm : y ∈ l.take k := List.mem_iff_getElem?.2 ⟨j, by rw [List.getElem?_take, if_pos hd, hy]⟩
              have h5 : decide (indexC (l.take k) x.c ≥ 0) = true := decide_eq_true ((indexC_nonneg _ _).2 ⟨y, hm, he⟩)
              rw [if_pos h5] at hle
              refine LWp.sx (gs := []) (hs := []) rfl trivial ?_
              refine LWp.ret (retT (.inr rfl) (.one (.tmp ?_ rfl)))
              rw [err 5 (by decide) hle]; rfl
            · simp only [beq_eq_false_iff_ne, ne_eq] at he
              refine LWp.skip ?_
              refine LWp.x (gs := []) (hs := []) rfl ⟨by omega, trivial⟩ ?_
              refine ⟨j + 1, ⟨by omega, ?_⟩, by omega, Ent.el ⟨rfl, rfl, rfl, rfl, trivial⟩⟩
              intro z hz
              rw [List.take_add_one, hy] at hz
              rcases List.mem_append.1 hz with hz | hz
              · exact hall z hz
              · simp only [Option.toList_some, List.mem_singleton] at hz; subst hz; exact he
          · simp only [decide_eq_false_iff_not, Int.ofNat_lt] at hd
            have : j = k := by omega
            subst this
            refine LWp.exit ⟨(), ?_, Ent.el ⟨rfl, rfl, rfl, trivial⟩⟩
            intro h
            obtain ⟨y, hy, e⟩ := (indexC_nonneg _ _).1 h
            exact hall y hy e
        intro _ hni
        rw [if_neg (by simpa using hni)] at hle
        refine LWp.seq (LWp.seq ?_)
        refine LWp.dd (gs := []) (hs := [.cells x.enc, .ret (I (2 ^ b.n.toNat - 1)), .ret (B (decide (0 ≤ x.s) && decide (x.s ≤ 2 ^ b.n.toNat - 1)))]) hmix rfl (by kernel_rfl) ⟨⟨by omega, by simp [hx]⟩, all_ev b.n h0 h1, in_ev _ 0 _, trivial⟩ ?_
        refine LWp.ite rfl (fun he => ?_) (fun he => ?_)
        · rw [inB_not] at he
          rw [if_pos he] at hle
          refine LWp.sx (gs := []) (hs := []) rfl trivial ?_
          refine LWp.ret (retT (.inr rfl) (.one (.tmp ?_ rfl)))
          rw [err 7 (by decide) hle]; rfl
        rw [inB_not] at he
        rw [if_neg (by rw [he]; simp)] at hle
        refine LWp.skip ?_
        by_cases hs : x.s = 0
        · refine LWp.seq ?_
          refine LWp.x (gs := [(57, true)]) (hs := [.cells x.enc, .cells x.enc]) rfl (by simp [hs, hx]; try exact hc) ?_
          refine LWp.ite rfl (fun hq => ?_) (fun hq => ?_)
          · simp only [Bool.not_eq_true'] at hq
            rw [if_pos (by simp [hs, hq])] at hle
            refine LWp.sx (gs := []) (hs := []) rfl trivial ?_
            refine LWp.ret (retT (.inr rfl) (.one (.tmp ?_ rfl)))
            rw [err 2 (by decide) hle]; rfl
          · simp only [Bool.not_eq_false'] at hq
            rw [if_neg (by simp [hs, hq])] at hle
            exact LWp.skip ⟨(), hle, Ent.el ⟨rfl, rfl, rfl, trivial⟩⟩
        · refine LWp.seq ?_
          refine LWp.x (gs := [(57, false)]) (hs := [.cells x.enc]) rfl (by simp [hs, hx]; try exact hc) ?_
          refine LWp.ite (b := false) rfl (fun h => by cases h) (fun _ => ?_)
          rw [if_neg (by simp [hs])] at hle
          exact LWp.skip ⟨(), hle, Ent.el ⟨rfl, rfl, rfl, trivial⟩⟩
      · intro _ hz
        rw [if_pos hz] at hi
        refine LWp.x (gs := []) (hs := []) rfl ⟨by omega, trivial⟩ ?_
        exact ⟨k + 1, ⟨hc, hi⟩, by omega, Ent.el ⟨rfl, rfl, rfl, trivial⟩⟩
    · simp only [List.length_map, decide_eq_false_iff_not, Int.ofNat_lt] at hc
      exact LWp.exit ⟨(), by rw [hi, show l.length - k = 0 by omega]; rfl, Ent.el trivial⟩
  · intro _ h
    refine LWp.sx (gs := []) (hs := []) rfl trivial ?_
    refine LWp.ret (retT (.inr rfl) (.one (.tmp ?_ rfl)))
    rw [h]; rfl
def spellS (b : Book) (s : Spelling) : Int := if beyondB 0 ((b.al.length : Int) - 1) [s.a] = true then 4 else if beyondB 1 5 [(s.t.length : Int)] = true then 3 else match b.al[s.a.toNat]? with
    | none => 0
    | some a => if s.t.all (fun c => decide (0 ≤ indexC a.ls c.toNat)) = true then 0 else 6
theorem rspelling_ev (b : Book) (hal : b.al.length < 1000) (hls : ∀ a ∈ b.al, a.ls.length ≤ 1000) (s : Spelling) (hw : s.wf) : Ev Tryz.prog 103 [.agg b.enc, .agg s.enc] (I (spellS b s)) := by
  have ht := hw.t
  refine Ev.intro fn103 ?_
  refine LWp.sx (gs := []) (hs := [.ice, .ice]) rfl ⟨⟨rfl, rfl⟩, ⟨rfl, rfl⟩, trivial⟩ ?_
  refine LWp.seq (LWp.seq ?_)
  refine LWp.x (gs := []) (hs := [.ret (B (decide (0 ≤ s.a) && decide (s.a ≤ ((b.al.map Alph.enc).length : Int) - 1)))]) rfl ⟨by simp; omega, in_ev _ 0 _, trivial⟩ ?_
  refine LWp.ite rfl (fun hc => ?_) (fun hc => ?_)
  · rw [inB_not, List.length_map] at hc
    refine LWp.sx (gs := []) (hs := []) rfl trivial ?_
    refine LWp.ret (retT (.inr rfl) (.one (.tmp ?_ rfl)))
    show I _ = I _
    simp only [spellS, hc, if_true]
  rw [inB_not, List.length_map] at hc
  refine LWp.skip ?_
  refine LWp.seq (LWp.seq ?_)
  refine LWp.x (gs := []) (hs := [.ret (B (decide (1 ≤ (s.t.length : Int)) && decide ((s.t.length : Int) ≤ 5)))]) rfl ⟨in_ev _ 1 5, trivial⟩ ?_
  refine LWp.ite rfl (fun hd => ?_) (fun hd => ?_)
  · rw [inB_not] at hd
    refine LWp.sx (gs := []) (hs := []) rfl trivial ?_
    refine LWp.ret (retT (.inr rfl) (.one (.tmp ?_ rfl)))
    show I _ = I _
    simp only [spellS, hc, hd, if_true, if_false, Bool.false_eq_true]
  rw [inB_not] at hd
  have hc' := hc
  simp only [beyondB, List.any_cons, List.any_nil, Bool.or_false, Bool.or_eq_false_iff, decide_eq_false_iff_not] at hc'
  have hlt : s.a.toNat < b.al.length := by omega
  obtain ⟨a, ha⟩ := ex_get hlt
  have hS : spellS b s = if s.t.all (fun c => decide (0 ≤ indexC a.ls c.toNat)) = true then 0 else 6 := by simp only [spellS, hc, hd, ha, if_false, Bool.false_eq_true]
  rw [hS]
  refine LWp.skip ?_
  refine LWp.seq (LWp.seq ?_)
  refine LWp.x (gs := []) (hs := []) rfl trivial ?_
  refine LWp.blockT (fun _ : Unit => s.t.all (fun c => decide (0 ≤ indexC a.ls c.toNat)) = true) (fun _ => el []) (fun _ => []) (fun _ => []) ?_ ?_
  · refine LWp.loopN (fun k : Nat => k ≤ s.t.length ∧ s.t.all (fun c => decide (0 ≤ indexC a.ls c.toNat)) = (s.t.drop k).all (fun c => decide (0 ≤ indexC a.ls c.toNat))) (fun k => el [(2, .pi b.enc), (3, .pi s.enc), (5, I k)]) (fun _ => []) (fun _ => []) (fun k => s.t.length - k) 0 ⟨by omega, rfl⟩
      (Ent.el ⟨rfl, rfl, rfl, trivial⟩) ?_
    rintro k ⟨hk, hi⟩
    refine LWp.seq (LWp.seq ?_)
    refine LWp.x (gs := []) (hs := []) rfl trivial ?_
    refine LWp.ite rfl (fun hb => ?_) (fun hb => ?_)
    · simp only [decide_eq_true_eq] at hb
      have hb' : k < s.t.length := by have : ((k : Int) < (s.t.length : Int)) := hb; omega
      obtain ⟨c, hx⟩ := ex_get hb'
      rw [drop_cons hx, List.all_cons] at hi
      refine LWp.skip (LWp.seq (LWp.block ?_))
      refine LWp.seq ?_
      refine LWp.dd (gs := []) (hs := [.cells a.enc, .byte c, .ret (I (indexC a.ls c.toNat))]) hmix rfl (by kernel_rfl) ⟨⟨by omega, by simp [ha]⟩, ⟨by omega, by simpa using hx⟩, rletter_ev a c.toNat (hls a (List.mem_of_getElem? ha)), trivial⟩ ?_
      refine LWp.ite rfl (fun he => ?_) (fun he => ?_)
      · simp only [decide_eq_true_eq] at he
        refine LWp.sx (gs := []) (hs := []) rfl trivial ?_
        refine LWp.ret (retT (.inr rfl) (.one (.tmp ?_ rfl)))
        have : decide (0 ≤ indexC a.ls c.toNat) = false := by simp; omega
        rw [hi, this]; rfl
      · simp only [decide_eq_false_iff_not] at he
        have : decide (0 ≤ indexC a.ls c.toNat) = true := by simp; omega
        refine LWp.skip ?_
        refine LWp.x (gs := []) (hs := []) rfl ⟨by omega, trivial⟩ ?_
        exact ⟨k + 1, ⟨hb', by rw [hi, this]; rfl⟩, by omega, Ent.el ⟨rfl, rfl, rfl, trivial⟩⟩
    · simp only [decide_eq_false_iff_not] at hb
      have hb' : ¬ k < s.t.length := by have : ¬ ((k : Int) < (s.t.length : Int)) := hb; omega
      exact LWp.exit ⟨(), by rw [hi, drop_nil hb']; rfl, Ent.el trivial⟩
  · intro _ h
    refine LWp.sx (gs := []) (hs := []) rfl trivial ?_
    refine LWp.ret (retT (.inr rfl) (.one (.tmp ?_ rfl)))
    rw [h]; rfl
theorem rcheck_ev (b : Book) (hw : b.wf) : Ev Tryz.prog 56 [.agg b.enc] (.tup [I (check b).1, I (check b).2.1, I (check b).2.2]) := by
  refine Ev.intro fn56 ?_
  refine LWp.sx (gs := []) (hs := [.ice]) rfl ⟨⟨rfl, rfl⟩, trivial⟩ ?_
  have res : ∀ {env : Env} {H : Heap} {p q r : Int}, check b = (p, q, r) → env 2 = I p → env 3 = I q → env 4 = I r → retP Tryz.prog [.tmp 2, .tmp 3, .tmp 4] (.tup [I (check b).1, I (check b).2.1, I (check b).2.2]) .ret env H [] := by
    intro env H p q r h h2 h3 h4
    rw [h]
    exact retT (.inr rfl) (.many (by decide) ⟨.tmp h2 rfl, .tmp h3 rfl, .tmp h4 rfl, trivial⟩)
  refine LWp.seq (LWp.seq ?_)
  refine LWp.x (gs := []) (hs := [.ret (B (decide (1 ≤ b.n) && decide (b.n ≤ 4)))]) rfl ⟨in_ev _ 1 4, trivial⟩ ?_
  refine LWp.ite rfl (fun hc => ?_) (fun hc => ?_)
  · rw [inB_not] at hc
    refine LWp.sx (gs := []) (hs := []) rfl trivial ?_
    exact LWp.ret (res (p := 1) (q := 0) (r := 7) (by simp only [check, hc, if_true]) rfl rfl rfl)
  rw [inB_not] at hc
  refine LWp.skip (LWp.seq (LWp.seq ?_))
  refine LWp.x (gs := []) (hs := [.ret (B (decide (1 ≤ ((b.al.map Alph.enc).length : Int)) && decide (((b.al.map Alph.enc).length : Int) ≤ 3)))]) rfl ⟨in_ev _ 1 3, trivial⟩ ?_
  refine LWp.ite rfl (fun hd => ?_) (fun hd => ?_)
  · rw [inB_not, List.length_map] at hd
    refine LWp.sx (gs := []) (hs := []) rfl trivial ?_
    exact LWp.ret (res (p := 2) (q := 0) (r := 3) (by simp only [check, hc, hd, if_true, if_false, Bool.false_eq_true]) rfl rfl rfl)
  rw [inB_not, List.length_map] at hd
  have hc' := hc
  have hd' := hd
  simp only [beyondB, List.any_cons, List.any_nil, Bool.or_false, Bool.or_eq_false_iff, decide_eq_false_iff_not] at hc' hd'
  refine LWp.skip ?_
  refine LWp.sx (gs := []) (hs := []) rfl trivial ?_
  refine LWp.seq (LWp.seq ?_)
  refine LWp.x (gs := []) (hs := []) rfl trivial ?_
  refine LWp.blockT (fun _ : Unit => (failF (alphErr b) b.al.length 0).2 = 0) (fun _ => el [(1, .pi b.enc)]) (fun _ => []) (fun _ => []) ?_ ?_
  · refine LWp.loopN (fun k : Nat => k ≤ b.al.length ∧ failF (alphErr b) b.al.length 0 = failF (alphErr b) (b.al.length - k) k) (fun k => el [(1, .pi b.enc), (5, .lin 9 1 (((b.al.take k).map (·.name)).map fun s => [Str s])), (6, I k)]) (fun _ => []) (fun _ => []) (fun k => b.al.length - k) 0 ⟨by omega, rfl⟩
      (Ent.trans (Ent.nilLin (t := 5) 9 1 rfl) (Ent.el ⟨rfl, rfl, rfl, trivial⟩)) ?_
    rintro k ⟨hk, hi⟩
    refine LWp.seq (LWp.seq ?_)
    refine LWp.x (gs := []) (hs := []) rfl trivial ?_
    refine LWp.ite rfl (fun he => ?_) (fun he => ?_)
    · simp only [List.length_map, decide_eq_true_eq, Int.ofNat_lt] at he
      obtain ⟨a, ha⟩ := ex_get he
      have haw := hw.al a (List.mem_of_getElem? ha)
      rw [failF_step he] at hi
      have hle : alphErr b k = if freshE a.name ((b.al.take k).map (·.name)) = 0 then lettersE b.n a.ls else freshE a.name ((b.al.take k).map (·.name)) := by
        simp only [alphErr, ha, freshE, lettersE, List.any_map]
        by_cases g1 : nameB a.name = true
        · simp only [g1, if_true]
          have e : (b.al.take k).any ((fun x => x == a.name) ∘ fun x => x.name) = (b.al.take k).any (fun x => x.name == a.name) := rfl
          rw [e]
          by_cases g2 : (b.al.take k).any (fun x => x.name == a.name) = true
          · simp [g2]
          · simp [g2]
        · simp [g1]
      refine LWp.skip ?_
      refine LWp.blockX (fun _ : Unit => alphErr b k = 0) (fun _ => el [(1, .pi b.enc), (5, .lin 9 1 (((b.al.take (k + 1)).map (·.name)).map fun s => [Str s])), (6, I k)]) (fun _ => []) (fun _ => []) ?_ ?_
      · generalize hnm : (b.al.take k).map (·.name) = nm at hle
        have hnl : nm.length ≤ 3 := by rw [← hnm]; simp; omega
        have hns : (b.al.take (k + 1)).map (·.name) = nm ++ [a.name] := by
          rw [List.take_add_one, ha, List.map_append, hnm]; rfl
        rw [hns]
        refine LWp.peek 5 rfl (fun ad cap => ?_)
        refine LWp.sx (gs := []) (hs := [.cells a.enc, .retB [Str a.name, strs nm] (I (freshE a.name nm))]) rfl ⟨⟨by omega, by simp [ha]⟩, ⟨fresh_ev a.name haw.name nm, rfl, .refl _, .linV (u := 5) rfl rfl, trivial⟩, trivial⟩ ?_
        refine LWp.sx (gs := []) (hs := [.cells a.enc, .ice, .own 5]) rfl ⟨⟨by omega, by simp [ha]⟩, rfl, ⟨⟨rfl, rfl, rfl⟩, by simp [chunk]; omega, by simp [chunk]; omega⟩, trivial⟩ ?_
        refine LWp.cutX (fun _ : Unit => True) (fun _ => el [(1, .pi b.enc), (5, .lin 9 1 ((nm ++ [a.name]).map fun s => [Str s])), (6, I k), (7, I (alphErr b k))]) (fun _ => []) (fun _ => []) ?_ ?_
        · refine LWp.sx (gs := []) (hs := []) rfl trivial ?_
          refine LWp.ite rfl (fun hf => ?_) (fun hf => ?_)
          · simp only [beq_iff_eq] at hf
            rw [if_pos hf] at hle
            refine LWp.dd (gs := []) (hs := [.cells a.enc, .ret (I (lettersE b.n a.ls))]) hmix rfl (by kernel_rfl) ⟨⟨by omega, by simp [ha]⟩, letters_ev b (by omega) (by omega) a.ls haw.ls, trivial⟩ ?_
            exact ⟨(), trivial, Ent.el ⟨rfl, by show AV.lin _ _ _ = _; rw [List.map_append]; rfl, rfl, by rw [hle]; rfl, trivial⟩⟩
          · simp only [beq_eq_false_iff_ne, ne_eq] at hf
            rw [if_neg hf] at hle
            exact LWp.skip ⟨(), trivial, Ent.el ⟨rfl, by show AV.lin _ _ _ = _; rw [List.map_append]; rfl, rfl, by rw [hle]; rfl, trivial⟩⟩
        intro _ _
        refine LWp.seq ?_
        refine LWp.x (gs := []) (hs := []) rfl trivial ?_
        refine LWp.ite rfl (fun hf => ?_) (fun hf => ?_)
        · simp only [bne_iff_ne, ne_eq] at hf
          rw [if_neg hf] at hi
          refine LWp.sx (gs := []) (hs := []) rfl trivial ?_
          exact LWp.ret (res (p := 2) (q := (k : Int)) (r := alphErr b k) (by simp only [check, hc, hd, hi, hf, if_false, Bool.false_eq_true]) rfl rfl rfl)
        · simp only [bne_eq_false_iff_eq] at hf
          exact LWp.skip ⟨(), hf, Ent.el ⟨rfl, rfl, rfl, trivial⟩⟩
      · intro _ hz
        rw [if_pos hz] at hi
        refine LWp.x (gs := []) (hs := []) rfl ⟨by omega, trivial⟩ ?_
        exact ⟨k + 1, ⟨he, hi⟩, by omega, Ent.el ⟨rfl, rfl, rfl, trivial⟩⟩
    · simp only [List.length_map, decide_eq_false_iff_not, Int.ofNat_lt] at he
      exact LWp.exit ⟨(), by rw [hi, show b.al.length - k = 0 by omega]; rfl, Ent.el ⟨rfl, trivial⟩⟩
  intro _ hz
  refine LWp.seq (LWp.seq ?_)
  refine LWp.x (gs := []) (hs := []) rfl trivial ?_
  refine LWp.ite rfl (fun he => ?_) (fun he => ?_)
  · simp only [List.length_map, decide_eq_true_eq] at he
    have he' : 5 < b.ss.length := by omega
    refine LWp.sx (gs := []) (hs := []) rfl trivial ?_
    exact LWp.ret (res (p := 3) (q := 0) (r := 3) (by simp only [check, hc, hd, hz, he', if_true, if_false, Bool.false_eq_true]) rfl rfl rfl)
  simp only [List.length_map, decide_eq_false_iff_not] at he
  have he' : ¬ 5 < b.ss.length := by omega
  have hls : ∀ a ∈ b.al, a.ls.length ≤ 1000 := by
    intro a ha
    obtain ⟨i, hi⟩ := List.mem_iff_getElem?.1 ha
    have := ((alphErr_iff hi).1 (failF_iff.1 hz i (List.getElem?_eq_some_iff.1 hi).1)).1.l6
    omega
  refine LWp.skip (LWp.seq (LWp.seq ?_))
  refine LWp.x (gs := []) (hs := []) rfl trivial ?_
  refine LWp.blockT (fun _ : Unit => (failF (spellErr b) b.ss.length 0).2 = 0) (fun _ => el []) (fun _ => []) (fun _ => []) ?_ ?_
  · refine LWp.loopN (fun k : Nat => k ≤ b.ss.length ∧ failF (spellErr b) b.ss.length 0 = failF (spellErr b) (b.ss.length - k) k) (fun k => el [(1, .pi b.enc), (8, I k)]) (fun _ => []) (fun _ => []) (fun k => b.ss.length - k) 0 ⟨by omega, rfl⟩
      (Ent.el ⟨rfl, rfl, trivial⟩) ?_
    rintro k ⟨hk, hi⟩
    refine LWp.seq (LWp.seq ?_)
    refine LWp.x (gs := []) (hs := []) rfl trivial ?_
    refine LWp.ite rfl (fun hf => ?_) (fun hf => ?_)
    · simp only [List.length_map, decide_eq_true_eq, Int.ofNat_lt] at hf
      obtain ⟨s, hs⟩ := ex_get hf
      rw [failF_step hf] at hi
      have hle : spellErr b k = spellS b s := by simp only [spellErr, hs]; rfl
      refine LWp.skip (LWp.seq (LWp.block ?_))
      refine LWp.sd (gs := []) (hs := [.cells s.enc, .ret (I (spellS b s))]) hmix rfl (by kernel_rfl) ⟨⟨by omega, by simp [hs]⟩, rspelling_ev b (by omega) hls s (hw.ss s (List.mem_of_getElem? hs)), trivial⟩ ?_
      refine LWp.seq ?_
      refine LWp.x (gs := []) (hs := []) rfl trivial ?_
      refine LWp.ite rfl (fun hg => ?_) (fun hg => ?_)
      · simp only [bne_iff_ne, ne_eq] at hg
        rw [← hle] at hg
        rw [if_neg hg] at hi
        refine LWp.sx (gs := []) (hs := []) rfl trivial ?_
        exact LWp.ret (res (p := 3) (q := (k : Int)) (r := spellS b s) (by simp only [check, hc, hd, hz, he', hi, hg, if_true, if_false, Bool.false_eq_true]; rw [hle]) rfl rfl rfl)
      · simp only [bne_eq_false_iff_eq] at hg
        rw [← hle] at hg
        rw [if_pos hg] at hi
        refine LWp.skip ?_
        refine LWp.x (gs := []) (hs := []) rfl ⟨by omega, trivial⟩ ?_
        exact ⟨k + 1, ⟨hf, hi⟩, by omega, Ent.el ⟨rfl, rfl, trivial⟩⟩
    · simp only [List.length_map, decide_eq_false_iff_not, Int.ofNat_lt] at hf
      exact LWp.exit ⟨(), by rw [hi, show b.ss.length - k = 0 by omega]; rfl, Ent.el trivial⟩
  · intro _ hs
    refine LWp.sx (gs := []) (hs := []) rfl trivial ?_
    exact LWp.ret (res (p := 0) (q := 0) (r := 0) (by simp only [check, hc, hd, hz, he', hs, if_true, if_false, Bool.false_eq_true]) rfl rfl rfl)
end Go.Px

namespace Go.Px
open Go.Proofs
theorem inB_of (n lo hi : Int) : (decide (lo ≤ n) && decide (n ≤ hi)) = !beyondB lo hi [n] := by
  rw [← inB_not]; simp
end Go.Px

namespace Go.Px
open Go.Proofs Go.MapKept
theorem beyond_two (lo hi a b : Int) : beyondB lo hi [a, b] = (beyondB lo hi [a] || beyondB lo hi [b]) := by
  unfold beyondB; simp
def endsE (s : Sp) (a b : Int) : Int := if beyondB a b [s.1, s.2] = true then 7 else if s.2 < s.1 then 2 else 0
theorem ends_ev (s : Sp) (a b : Int) : Ev Tryz.prog 104 [.agg (sp2 s), I a, I b] (I (endsE s a b)) := by
  have e1 := in_ev s.1 a b
  have e2 := in_ev s.2 a b
  rw [inB_of] at e1 e2
  have hE : endsE s a b = if (beyondB a b [s.1] || beyondB a b [s.2]) = true then 7 else if s.2 < s.1 then 2 else 0 := by unfold endsE; rw [beyond_two]
  generalize beyondB a b [s.1] = c1 at e1 hE
  generalize beyondB a b [s.2] = c2 at e2 hE
  refine Ev.intro fn104 ?_
  refine LWp.sx (gs := []) (hs := [.ice]) rfl ⟨⟨rfl, rfl⟩, trivial⟩ ?_
  refine LWp.seq (LWp.cutX (fun _ : Unit => True) (fun _ => el [(3, .pi (sp2 s)), (20, B (c1 || c2))]) (fun _ => []) (fun _ => []) ?_ ?_)
  · cases c1 with
    | true =>
      refine LWp.x (gs := [(13, true)]) (hs := [.ret (B (!true))]) rfl (by (repeat' (with_reducible apply And.intro)); (all_goals first | (with_reducible exact trivial) | (with_reducible rfl) | (with_reducible assumption) | ((with_reducible apply isB); first | exact rfl | exact beq_self_eq_true _) | omega | ((first | exact e1)))) ?_
      exact ⟨(), trivial, Ent.el ⟨rfl, rfl, trivial⟩⟩
    | false =>
      refine LWp.x (gs := [(13, false)]) (hs := [.ret (B (!false)), .ret (B (!c2))]) rfl (by (repeat' (with_reducible apply And.intro)); (all_goals first | (with_reducible exact trivial) | (with_reducible rfl) | (with_reducible assumption) | ((with_reducible apply isB); first | exact rfl | exact beq_self_eq_true _) | omega | ((first | exact e1 | exact e2)))) ?_
      refine ⟨(), trivial, Ent.el ⟨rfl, ?_, trivial⟩⟩
      show B (!!c2) = B _
      rw [Bool.not_not]; rfl
  intro _ _
  refine LWp.ite rfl (fun hb => ?_) (fun hb => LWp.skip ?_)
  · rw [if_pos hb] at hE
    rw [hE]
    refine LWp.sx (gs := []) (hs := []) rfl trivial ?_
    refine LWp.ret (retT (.inr rfl) (.one (.tmp ?_ rfl)))
    rfl
  rw [if_neg (by simp [hb])] at hE
  refine LWp.seq (LWp.seq ?_)
  refine LWp.x (gs := []) (hs := []) rfl trivial ?_
  refine LWp.ite rfl (fun hd => ?_) (fun hd => LWp.skip ?_)
  · rw [if_pos (of_decide_eq_true hd)] at hE
    rw [hE]
    refine LWp.sx (gs := []) (hs := []) rfl trivial ?_
    refine LWp.ret (retT (.inr rfl) (.one (.tmp ?_ rfl)))
    rfl
  · rw [if_neg (of_decide_eq_false hd)] at hE
    rw [hE]
    refine LWp.sx (gs := []) (hs := []) rfl trivial ?_
    refine LWp.ret (retT (.inr rfl) (.one (.tmp ?_ rfl)))
    rfl
theorem rmention_ev (t : Town) (x : Men) (at_ : Int) (hv0 : -9223372036854775807 ≤ t.vil) (hv1 : t.vil ≤ 9223372036854775807) (hms : t.ms.length ≤ 1000) (hss : t.ear.ss.length ≤ 1000) : Ev Tryz.prog 57 [.agg t.enc, .agg x.enc, I at_] (I (menE t x at_)) := by
  have hsl : (t.ear.ss.map Spelling.enc).length = t.ear.ss.length := List.length_map _
  have hml : (t.ms.map Men.enc).length = t.ms.length := List.length_map _
  have b1 := in_ev x.sp 0 (((t.ear.ss.map Spelling.enc).length : Int) - 1)
  have b2 := in_ev x.v (-1) (t.vil - 1)
  have b3 := in_ev x.par (-1) (((t.ms.map Men.enc).length : Int) - 1)
  have b4 := ends_ev (x.lo, x.hi) 0 199
  rw [inB_of] at b1 b2 b3
  have hE : menE t x at_ = if ((beyondB 0 (((t.ear.ss.map Spelling.enc).length : Int) - 1) [x.sp] || beyondB (-1) (t.vil - 1) [x.v]) || beyondB (-1) (((t.ms.map Men.enc).length : Int) - 1) [x.par]) = true then 4
      else if endsE (x.lo, x.hi) 0 199 ≠ 0 then endsE (x.lo, x.hi) 0 199 else if x.par = at_ then 2 else 0 := by
    rw [hsl, hml]
    unfold menE endsE
    split
    · rfl
    · simp only
      split
      · simp
      · by_cases h1 : x.hi < x.lo
        · simp [h1]
        · simp [h1]
  generalize beyondB 0 (((t.ear.ss.map Spelling.enc).length : Int) - 1) [x.sp] = c1 at b1 hE
  generalize beyondB (-1) (t.vil - 1) [x.v] = c2 at b2 hE
  generalize beyondB (-1) (((t.ms.map Men.enc).length : Int) - 1) [x.par] = c3 at b3 hE
  generalize endsE (x.lo, x.hi) 0 199 = e4 at b4 hE
  refine Ev.intro fn57 ?_
  refine LWp.sx (gs := []) (hs := [.ice, .ice]) rfl ⟨⟨rfl, rfl⟩, ⟨rfl, rfl⟩, trivial⟩ ?_
  refine LWp.seq (LWp.cutX (fun _ : Unit => True) (fun _ => el [(2, I at_), (3, .pi t.enc), (4, .pi x.enc), (35, B ((c1 || c2) || c3))]) (fun _ => []) (fun _ => []) ?_ ?_)
  · cases c1 with
    | true =>
      refine LWp.x (gs := [(17, true), (26, true)]) (hs := [.ret (B (!true))]) rfl (by (repeat' (with_reducible apply And.intro)); (all_goals first | (with_reducible exact trivial) | (with_reducible rfl) | (with_reducible assumption) | ((with_reducible apply isB); first | exact rfl | exact beq_self_eq_true _) | omega | ((first | exact b1)))) ?_
      exact ⟨(), trivial, Ent.el ⟨rfl, rfl, rfl, rfl, trivial⟩⟩
    | false =>
      cases c2 with
      | true =>
        refine LWp.x (gs := [(17, false), (26, true)]) (hs := [.ret (B (!false)), .ret (B (!true))]) rfl (by (repeat' (with_reducible apply And.intro)); (all_goals first | (with_reducible exact trivial) | (with_reducible rfl) | (with_reducible assumption) | ((with_reducible apply isB); first | exact rfl | exact beq_self_eq_true _) | omega | ((first | exact b1 | exact b2)))) ?_
        exact ⟨(), trivial, Ent.el ⟨rfl, rfl, rfl, rfl, trivial⟩⟩
      | false =>
        refine LWp.x (gs := [(17, false), (26, false)]) (hs := [.ret (B (!false)), .ret (B (!false)), .ret (B (!c3))]) rfl (by (repeat' (with_reducible apply And.intro)); (all_goals first | (with_reducible exact trivial) | (with_reducible rfl) | (with_reducible assumption) | ((with_reducible apply isB); first | exact rfl | exact beq_self_eq_true _) | omega | ((first | exact b1 | exact b2 | exact b3)))) ?_
        refine ⟨(), trivial, Ent.el ⟨rfl, rfl, rfl, ?_, trivial⟩⟩
        show B (!!c3) = B _
        rw [Bool.not_not]; rfl
  intro _ _
  refine LWp.ite rfl (fun hb => ?_) (fun hb => LWp.skip ?_)
  · rw [if_pos hb] at hE
    rw [hE]
    refine LWp.sx (gs := []) (hs := []) rfl trivial ?_
    refine LWp.ret (retT (.inr rfl) (.one (.tmp ?_ rfl)))
    rfl
  rw [if_neg (by rw [hb]; decide)] at hE
  refine LWp.sx (gs := []) (hs := [.ret (I e4)]) rfl ⟨b4, trivial⟩ ?_
  by_cases h4 : e4 = 0
  · rw [if_neg (by simp [h4])] at hE
    have hz : (e4 == 0) = true := by rw [h4]; rfl
    refine LWp.seq (LWp.seq ?_)
    refine LWp.x (gs := [(41, true)]) (hs := []) rfl (by (repeat' (with_reducible apply And.intro)); (all_goals first | (with_reducible exact trivial) | (with_reducible rfl) | (with_reducible assumption) | ((with_reducible apply isB); first | exact rfl | exact beq_self_eq_true _) | omega | ((rfl)))) ?_
    by_cases h5 : x.par = at_
    · rw [if_pos h5] at hE
      rw [hE]
      refine LWp.ite (b := true) (by show B _ = B _; exact congrArg B (by rw [beq_iff_eq]; exact h5)) (fun _ => ?_) (fun h => by cases h)
      refine LWp.x (gs := []) (hs := []) rfl trivial ?_
      refine LWp.sx (gs := []) (hs := []) rfl trivial ?_
      refine LWp.ret (retT (.inr rfl) (.one (.tmp ?_ rfl)))
      rfl
    · rw [if_neg h5] at hE
      rw [hE]
      refine LWp.ite (b := false) (by show B _ = B _; exact congrArg B (by rw [beq_eq_false_iff_ne]; exact h5)) (fun h => by cases h) (fun _ => LWp.skip ?_)
      refine LWp.sx (gs := []) (hs := []) rfl trivial ?_
      refine LWp.ret (retT (.inr rfl) (.one (.tmp ?_ rfl)))
      show I _ = I _
      rw [h4]
  · rw [if_pos h4] at hE
    rw [hE]
    have hz : (e4 == 0) = false := by rw [beq_eq_false_iff_ne]; exact h4
    refine LWp.seq (LWp.seq ?_)
    refine LWp.x (gs := [(41, false)]) (hs := []) rfl (by (repeat' (with_reducible apply And.intro)); (all_goals first | (with_reducible exact trivial) | (with_reducible rfl) | (with_reducible assumption) | ((with_reducible apply isB); first | exact rfl | exact beq_self_eq_true _) | omega | ((rfl)))) ?_
    refine LWp.ite (b := false) rfl (fun h => by cases h) (fun _ => LWp.skip ?_)
    refine LWp.sx (gs := []) (hs := []) rfl trivial ?_
    refine LWp.ret (retT (.inr rfl) (.one (.tmp ?_ rfl)))
    rfl
end Go.Px

namespace Go.Px
open Go.Proofs Go.MapKept
theorem failF_here {f : Nat → Int} {m k : Nat} (hk : k < m) (h : failF f m 0 = failF f (m - k) k) (hf : f k ≠ 0) : failF f m 0 = ((k : Int), f k) := by
  obtain ⟨d, hd⟩ : ∃ d, m - k = d + 1 := ⟨m - k - 1, by omega⟩
  rw [h, hd, failF, if_neg hf]
theorem failF_on {f : Nat → Int} {m k : Nat} (hk : k < m) (h : failF f m 0 = failF f (m - k) k) (hf : f k = 0) : failF f m 0 = failF f (m - (k + 1)) (k + 1) := by
  obtain ⟨d, hd⟩ : ∃ d, m - k = d + 1 := ⟨m - k - 1, by omega⟩
  rw [h, hd, failF, if_pos hf]
  congr 1
  omega
theorem failF_end {f : Nat → Int} {m : Nat} (h : failF f m 0 = failF f (m - m) m) : failF f m 0 = (0, 0) := by
  rw [h, Nat.sub_self]; rfl
theorem rpcheck_ev (t : Town) (hw : t.wf) : Ev Tryz.prog 16 [.agg t.enc] (.tup [I (checkT t).1, I (checkT t).2.1, I (checkT t).2.2]) := by
  have ec := rcheck_ev t.ear hw.ear
  have hml : ((t.ms.map Men.enc).length : Int) = t.ms.length := by simp
  have htl : ((t.ties.map Tie.enc).length : Int) = t.ties.length := by simp
  have eb := in_ev t.vil 1 4
  rw [inB_of] at eb
  have res : ∀ {Q : Post} {env : Env} {H : Heap} {x y r : Int}, (∀ env H, retP Tryz.prog [.tmp 2, .tmp 3, .tmp 4] (.tup [I (checkT t).1, I (checkT t).2.1, I (checkT t).2.2]) .ret env H [] → Q .ret env H []) → checkT t = (x, y, r) → env 2 = I x → env 3 = I y → env 4 = I r → Q .ret env H [] := by
    intro Q env H x y r hQ h h2 h3 h4
    refine hQ _ _ ?_
    rw [h]
    exact retT (.inr rfl) (.many (by decide) ⟨.tmp h2 rfl, .tmp h3 rfl, .tmp h4 rfl, trivial⟩)
  have hC : checkT t = if (check t.ear).2.2 ≠ 0 then (1, 0, (check t.ear).2.2) else if beyondB 1 4 [t.vil] = true then (2, 0, 7)
      else if 5 < t.ms.length then (3, 0, 3)
      else if (failF (menAt t) t.ms.length 0).2 ≠ 0 then (3, (failF (menAt t) t.ms.length 0).1, (failF (menAt t) t.ms.length 0).2)
      else if 4 < t.ties.length then (4, 0, 3)
      else if (failF (tieAt t) t.ties.length 0).2 ≠ 0 then (4, (failF (tieAt t) t.ties.length 0).1, (failF (tieAt t) t.ties.length 0).2)
      else (0, 0, 0) := rfl
  have hss5 : (check t.ear).2.2 = 0 → t.ear.ss.length ≤ 5 := fun h => (valid_iff.1 h).ss5
  have hbv : beyondB 1 4 [t.vil] = false → 1 ≤ t.vil ∧ t.vil ≤ 4 := by
    intro h
    have h' : ¬ beyondB 1 4 [t.vil] = true := by rw [h]; decide
    rw [beyond1_iff, Decidable.not_not] at h'
    exact h'
  generalize (check t.ear).1 = c1 at ec
  generalize (check t.ear).2.1 = c2 at ec
  generalize (check t.ear).2.2 = c3 at ec hC hss5
  generalize beyondB 1 4 [t.vil] = bv at eb hC hbv
  refine Ev.intro fn16 ?_
  refine LWp.sx (gs := []) (hs := [.ice]) rfl ⟨⟨rfl, rfl⟩, trivial⟩ ?_
  refine LWp.sx (gs := []) (hs := [.ret (.tup [I c1, I c2, I c3])]) rfl ⟨ec, trivial⟩ ?_
  refine LWp.seq (LWp.seq ?_)
  refine LWp.x (gs := []) (hs := []) rfl trivial ?_
  by_cases h : c3 = 0
  case neg =>
    rw [if_pos h] at hC
    refine LWp.ite (b := true) (by show B _ = B _; exact congrArg B (by rw [bne_iff_ne]; exact h)) (fun _ => ?_) (fun h => by cases h)
    refine LWp.sx (gs := []) (hs := []) rfl trivial ?_
    exact LWp.ret (res (fun _ _ h => h) hC rfl rfl rfl)
  rw [if_neg (by simp [h])] at hC
  refine LWp.ite (b := false) (by show B _ = B _; exact congrArg B (by rw [h]; rfl)) (fun h => by cases h) (fun _ => LWp.skip ?_)
  refine LWp.seq (LWp.seq ?_)
  refine LWp.x (gs := []) (hs := [.ret (B (!bv))]) rfl ⟨eb, trivial⟩ ?_
  cases bv with
  | true =>
    rw [if_pos rfl] at hC
    refine LWp.ite (b := true) rfl (fun _ => ?_) (fun h => by cases h)
    refine LWp.sx (gs := []) (hs := []) rfl trivial ?_
    exact LWp.ret (res (fun _ _ h => h) hC rfl rfl rfl)
  | false =>
  rw [if_neg (by decide)] at hC
  refine LWp.ite (b := false) rfl (fun h => by cases h) (fun _ => LWp.skip ?_)
  refine LWp.seq (LWp.seq ?_)
  refine LWp.x (gs := []) (hs := []) rfl trivial ?_
  by_cases h5 : 5 < t.ms.length
  · rw [if_pos h5] at hC
    refine LWp.ite (b := true) (by show B _ = B _; exact congrArg B (decide_eq_true (by omega))) (fun _ => ?_) (fun h => by cases h)
    refine LWp.sx (gs := []) (hs := []) rfl trivial ?_
    exact LWp.ret (res (fun _ _ h => h) hC rfl rfl rfl)
  rw [if_neg h5] at hC
  refine LWp.ite (b := false) (by show B _ = B _; exact congrArg B (decide_eq_false (by omega))) (fun h => by cases h) (fun _ => LWp.skip ?_)
  have hss : t.ear.ss.length ≤ 1000 := by have := hss5 h; omega
  have hms : t.ms.length ≤ 1000 := by omega
  have hvil := hbv rfl
  refine LWp.seq (LWp.seq ?_)
  refine LWp.x (gs := []) (hs := []) rfl trivial ?_
  refine LWp.blockT (fun _ : Unit => failF (menAt t) t.ms.length 0 = (0, 0)) (fun _ => el [(1, .pi t.enc)]) (fun _ => []) (fun _ => []) ?_ ?_
  · refine LWp.loopN (fun k : Nat => k ≤ t.ms.length ∧ failF (menAt t) t.ms.length 0 = failF (menAt t) (t.ms.length - k) k) (fun k => el [(1, .pi t.enc), (8, I k)]) (fun _ => []) (fun _ => []) (fun k => t.ms.length - k) 0 ⟨by omega, rfl⟩ (Ent.el ⟨rfl, rfl, trivial⟩) ?_
    rintro k ⟨hk, hi⟩
    refine LWp.seq (LWp.seq ?_)
    refine LWp.x (gs := []) (hs := []) rfl trivial ?_
    refine LWp.ite rfl (fun hc => ?_) (fun hc => ?_)
    · simp only [decide_eq_true_eq] at hc
      have hkl : k < t.ms.length := by omega
      obtain ⟨x, hx⟩ := ex_get hkl
      have em : menAt t k = menE t x k := by unfold menAt; rw [hx]
      have erm := rmention_ev t x k (by omega) (by omega) hms hss
      rw [← em] at erm
      have h1 := failF_here hkl hi
      have h2 := failF_on hkl hi
      generalize menAt t k = e at erm h1 h2
      refine LWp.skip (LWp.seq (LWp.block ?_))
      refine LWp.sd (gs := []) (hs := [.cells x.enc, .ret (I e)]) hmix rfl (by kernel_rfl) (by (repeat' (with_reducible apply And.intro)); (all_goals first | (with_reducible exact trivial) | (with_reducible rfl) | (with_reducible assumption) | ((with_reducible apply isB); first | exact rfl | exact beq_self_eq_true _) | omega | ((first | (simp [hx]; done) | exact erm)))) ?_
      refine LWp.sx (gs := []) (hs := []) rfl trivial ?_
      by_cases he : e = 0
      · refine LWp.ite (b := false) (by show B _ = B _; exact congrArg B (by rw [he]; rfl)) (fun h => by cases h) (fun _ => LWp.skip ?_)
        refine LWp.x (gs := []) (hs := []) rfl ⟨by omega, trivial⟩ ?_
        exact ⟨k + 1, ⟨by omega, h2 he⟩, by omega, Ent.el ⟨rfl, rfl, trivial⟩⟩
      · refine LWp.ite (b := true) (by show B _ = B _; exact congrArg B (by rw [bne_iff_ne]; exact he)) (fun _ => ?_) (fun h => by cases h)
        refine LWp.sx (gs := []) (hs := []) rfl trivial ?_
        rw [h1 he, if_pos he] at hC
        exact LWp.ret (res (fun _ _ h => h) hC rfl rfl rfl)
    · simp only [decide_eq_false_iff_not] at hc
      have e : k = t.ms.length := by omega
      subst e
      exact LWp.exit ⟨(), failF_end hi, Ent.el ⟨rfl, trivial⟩⟩
  intro _ hM
  rw [hM, if_neg (by simp)] at hC
  refine LWp.seq (LWp.seq ?_)
  refine LWp.x (gs := []) (hs := []) rfl trivial ?_
  by_cases h4 : 4 < t.ties.length
  · rw [if_pos h4] at hC
    refine LWp.ite (b := true) (by show B _ = B _; exact congrArg B (decide_eq_true (by omega))) (fun _ => ?_) (fun h => by cases h)
    refine LWp.sx (gs := []) (hs := []) rfl trivial ?_
    exact LWp.ret (res (fun _ _ h => h) hC rfl rfl rfl)
  rw [if_neg h4] at hC
  refine LWp.ite (b := false) (by show B _ = B _; exact congrArg B (decide_eq_false (by omega))) (fun h => by cases h) (fun _ => LWp.skip ?_)
  refine LWp.seq (LWp.seq ?_)
  refine LWp.x (gs := []) (hs := []) rfl trivial ?_
  refine LWp.blockT (fun _ : Unit => failF (tieAt t) t.ties.length 0 = (0, 0)) (fun _ => el []) (fun _ => []) (fun _ => []) ?_ ?_
  · refine LWp.loopN (fun k : Nat => k ≤ t.ties.length ∧ failF (tieAt t) t.ties.length 0 = failF (tieAt t) (t.ties.length - k) k) (fun k => el [(1, .pi t.enc), (9, I k)]) (fun _ => []) (fun _ => []) (fun k => t.ties.length - k) 0 ⟨by omega, rfl⟩ (Ent.el ⟨rfl, rfl, trivial⟩) ?_
    rintro k ⟨hk, hi⟩
    refine LWp.seq (LWp.seq ?_)
    refine LWp.x (gs := []) (hs := []) rfl trivial ?_
    refine LWp.ite rfl (fun hc => ?_) (fun hc => ?_)
    · simp only [decide_eq_true_eq] at hc
      have hkl : k < t.ties.length := by omega
      obtain ⟨x, hx⟩ := ex_get hkl
      have ea := in_ev x.a 0 (((t.ms.map Men.enc).length : Int) - 1)
      have eb := in_ev x.b 0 (((t.ms.map Men.enc).length : Int) - 1)
      rw [inB_of] at ea eb
      have em : tieAt t k = if (beyondB 0 (((t.ms.map Men.enc).length : Int) - 1) [x.a] || beyondB 0 (((t.ms.map Men.enc).length : Int) - 1) [x.b]) = true then 4 else if x.a = x.b then 2 else 0 := by
        unfold tieAt
        rw [hx, hml]
        show tieE t x = _
        unfold tieE
        rw [beyond_two]
      have h1 := failF_here hkl hi
      have h2 := failF_on hkl hi
      generalize beyondB 0 (((t.ms.map Men.enc).length : Int) - 1) [x.a] = c1 at ea em
      generalize beyondB 0 (((t.ms.map Men.enc).length : Int) - 1) [x.b] = c2 at eb em
      refine LWp.skip (LWp.seq (LWp.block ?_))
      refine LWp.sx (gs := []) (hs := [.cells x.enc, .lin]) rfl ⟨⟨by omega, by simp [hx]⟩, rfl, ⟨rfl, rfl, rfl, by decide⟩, trivial⟩ ?_
      refine LWp.ent (Ent.freezeLbox (t := 10) rfl) ?_
      refine LWp.seq (LWp.cutX (fun _ : Unit => True) (fun _ => el [(1, .pi t.enc), (9, I k), (10, .pi x.enc), (81, B (c1 || c2))]) (fun _ => []) (fun _ => []) ?_ ?_)
      · cases c1 with
        | true =>
          refine LWp.x (gs := [(72, true)]) (hs := [.ret (B (!true))]) rfl (by (repeat' (with_reducible apply And.intro)); (all_goals first | (with_reducible exact trivial) | (with_reducible rfl) | (with_reducible assumption) | ((with_reducible apply isB); first | exact rfl | exact beq_self_eq_true _) | omega | ((first | exact ea)))) ?_
          exact ⟨(), trivial, Ent.el ⟨rfl, rfl, rfl, rfl, trivial⟩⟩
        | false =>
          refine LWp.x (gs := [(72, false)]) (hs := [.ret (B (!false)), .ret (B (!c2))]) rfl (by (repeat' (with_reducible apply And.intro)); (all_goals first | (with_reducible exact trivial) | (with_reducible rfl) | (with_reducible assumption) | ((with_reducible apply isB); first | exact rfl | exact beq_self_eq_true _) | omega | ((first | exact ea | exact eb)))) ?_
          refine ⟨(), trivial, Ent.el ⟨rfl, rfl, rfl, ?_, trivial⟩⟩
          show B (!!c2) = B _
          rw [Bool.not_not]; rfl
      intro _ _
      refine LWp.ite rfl (fun hb => ?_) (fun hb => LWp.skip ?_)
      · rw [if_pos hb] at em
        refine LWp.sx (gs := []) (hs := []) rfl trivial ?_
        rw [h1 (by rw [em]; decide), em, if_pos (show (4 : Int) ≠ 0 by decide)] at hC
        exact LWp.ret (res (fun _ _ h => h) hC rfl rfl rfl)
      rw [if_neg (by rw [hb]; decide)] at em
      refine LWp.sx (gs := []) (hs := []) rfl trivial ?_
      by_cases hab : x.a = x.b
      · rw [if_pos hab] at em
        refine LWp.ite (b := true) (by show B _ = B _; exact congrArg B (by rw [beq_iff_eq]; exact hab)) (fun _ => ?_) (fun h => by cases h)
        refine LWp.sx (gs := []) (hs := []) rfl trivial ?_
        rw [h1 (by rw [em]; decide), em, if_pos (show (2 : Int) ≠ 0 by decide)] at hC
        exact LWp.ret (res (fun _ _ h => h) hC rfl rfl rfl)
      · rw [if_neg hab] at em
        refine LWp.ite (b := false) (by show B _ = B _; exact congrArg B (by rw [beq_eq_false_iff_ne]; exact hab)) (fun h => by cases h) (fun _ => LWp.skip ?_)
        refine LWp.x (gs := []) (hs := []) rfl ⟨by omega, trivial⟩ ?_
        exact ⟨k + 1, ⟨by omega, h2 em⟩, by omega, Ent.el ⟨rfl, rfl, trivial⟩⟩
    · simp only [decide_eq_false_iff_not] at hc
      have e : k = t.ties.length := by omega
      subst e
      exact LWp.exit ⟨(), failF_end hi, Ent.el trivial⟩
  intro _ hT
  rw [hT, if_neg (by simp)] at hC
  refine LWp.sx (gs := []) (hs := []) rfl trivial ?_
  exact LWp.ret (res (fun _ _ h => h) hC rfl rfl rfl)
end Go.Px

namespace Go.Px
open Go.Proofs Go.MapKept
theorem tru_iff {t : Town} {but : Nat → Bool} {p : List Nat} : p ∈ truthsL t but ↔ p ∈ groupsN t.ms.length ∧ Tru t but p := by
  unfold truthsL
  rw [List.mem_filter]
  refine and_congr_right fun hp => ?_
  unfold canR
  simp only [Bool.and_eq_true, List.all_eq_true, List.mem_range, Bool.not_eq_true']
  exact ⟨fun h => ⟨groups_grp hp, h.2.1, h.2.2, h.1.2, h.1.1⟩, fun h => ⟨⟨h.named, h.tied⟩, h.kin, h.yrs⟩⟩
theorem Tru.kin1 {t : Town} {but : Nat → Bool} {p : List Nat} (h : Tru t but p) : Kin1 t p := fun i hi hpi => (kinB_iff.1 h.kin i hi hpi).1
theorem Tru.year {t : Town} (hO : t.OK) {but : Nat → Bool} {p : List Nat} (h : Tru t but p) {w : Nat} (hw : w < cnt p) :
    (bornAt t p t.ms.length w).1 ≤ (spAt (yearsW t p (cnt p)) w).1 ∧ (spAt (yearsW t p (cnt p)) w).1 ≤ (spAt (yearsW t p (cnt p)) w).2 ∧ (spAt (yearsW t p (cnt p)) w).2 ≤ (bornAt t p t.ms.length w).2 := by
  have hs := yearsW_sub hO h.grp h.kin1 (Nat.le_refl (cnt p))
  have hl : (yearsW t p (cnt p)).length = cnt p := by rw [hs.1, born0_len]
  have hn := not_empty_at h.yrs (k := w) (by omega)
  have h2 := hs.2 w
  rw [born0_get t p hw] at h2
  exact ⟨h2.1, hn, h2.2⟩
end Go.Px

namespace Go.Px
open Go.Proofs
open Go.ChangeShapes Go.WideShapes Go.ChangeAt Go.RowKit
theorem fits_u3 (a : AV) (h : FitA (.arr 3 (.int .u8)) a) : ∃ i j k : Int, 0 ≤ i ∧ i ≤ 255 ∧ 0 ≤ j ∧ j ≤ 255 ∧ 0 ≤ k ∧ k ≤ 255 ∧ a = .agg [U i, U j, U k] := by
  simp only [FitA, FitN, Fits] at h
  obtain ⟨_, rfl, _, _, rfl, ⟨i, rfl, hi⟩, _, _, rfl, ⟨j, rfl, hj⟩, _, _, rfl, ⟨k, rfl, hk⟩, rfl⟩ := h
  have := bounds_u8 hi
  have := bounds_u8 hj
  have := bounds_u8 hk
  exact ⟨i, j, k, by omega, by omega, by omega, by omega, by omega, by omega, rfl⟩
end Go.Px

namespace Go.Px
open Go.Proofs Go.MapKept
theorem yrRound_none : ∀ (ks : List (Nat × Nat)) (b : List Sp) (m : Bool), (∀ k ∈ ks, k.1 < b.length ∧ k.2 < b.length) → (yrRound ks (b, m)).2 = false → m = false ∧ ∀ k ∈ ks, yrMore b k.1 k.2 = false
  | [], b, m, _, h => ⟨h, fun k hk => by cases hk⟩
  | (a, c) :: ks, b, m, h, e => by
    obtain ⟨ha, hc⟩ := h (a, c) (by simp)
    simp only [yrRound] at e
    obtain ⟨i1, i2⟩ := yrRound_none ks (yrStep b a c) (m || yrMore b a c) (fun k hk => by rw [yrStep_len]; exact h k (by simp [hk])) e
    rw [Bool.or_eq_false_iff] at i1
    rw [(yrStep_sub ha hc).2 i1.2] at i2
    refine ⟨i1.1, fun k hk => ?_⟩
    rcases List.mem_cons.1 hk with rfl | hk
    · exact i1.2
    · exact i2 k hk
theorem yearsB_fix {ks : List (Nat × Nat)} : ∀ (n : Nat) (b : List Sp), width b < n → (∀ k ∈ ks, k.1 < b.length ∧ k.2 < b.length ∧ k.1 ≠ k.2) → emptyS (yearsB ks b) = false → ∀ k ∈ ks, yrMore (yearsB ks b) k.1 k.2 = false
  | 0, _, h, _, _ => by omega
  | n + 1, b, hn, hk, he => by
    have hk2 : ∀ k ∈ ks, k.1 < b.length ∧ k.2 < b.length := fun k h => ⟨(hk k h).1, (hk k h).2.1⟩
    cases hb : emptyS b with
    | true => rw [yearsB_empty hb, hb] at he; cases he
    | false =>
      cases hm : (yrRound ks (b, false)).2 with
      | false =>
        rw [yearsB_done hb hm, ((yrRound_sub ks b false hk2).2 hm).1]
        exact (yrRound_none ks b false hk2 hm).2
      | true =>
        rw [yearsB_more hk hb hm] at he ⊢
        cases hr : emptyS (yrRound ks (b, false)).1 with
        | true => rw [yearsB_empty hr, hr] at he; cases he
        | false =>
          have := width_round hk hm hr
          exact yearsB_fix n _ (by omega) (fun k h => by rw [yrRound_len]; exact hk k h) he
theorem yrMore_iff {b : List Sp} {a c : Nat} : yrMore b a c = false ↔ older (spAt b a) (spAt b c) = spAt b a ∧ younger (spAt b a) (spAt b c) = spAt b c := by
  unfold yrMore
  rw [Bool.or_eq_false_iff, decide_eq_false_iff_not, decide_eq_false_iff_not, Classical.not_not, Classical.not_not]
theorem yrMore_bd {b : List Sp} {a c : Nat} : yrMore b a c = false ↔ (spAt b c).1 - 60 ≤ (spAt b a).1 ∧ (spAt b a).2 ≤ (spAt b c).2 - 15 ∧ (spAt b a).1 + 15 ≤ (spAt b c).1 ∧ (spAt b c).2 ≤ (spAt b a).2 + 60 := by
  rw [yrMore_iff, Prod.ext_iff, Prod.ext_iff]
  simp only [older, younger]
  omega
theorem yrStep_keep {F b : List Sp} (h : SubB F b) {a c : Nat} (ha : a < b.length) (hc : c < b.length) (hm : yrMore F a c = false) : SubB F (yrStep b a c) := by
  rw [yrMore_bd] at hm
  refine ⟨by rw [yrStep_len]; exact h.1, fun k => ?_⟩
  unfold yrStep
  rw [spAt_set _ _ _ _ (by simpa using hc), spAt_set _ _ _ _ ha]
  have h1 := h.2 a
  have h2 := h.2 c
  have h3 := h.2 k
  simp only [SubS1] at h1 h2 h3 ⊢
  by_cases e1 : c = k
  · rw [if_pos e1]
    subst e1
    simp only [younger]
    omega
  · rw [if_neg e1]
    by_cases e2 : a = k
    · rw [if_pos e2]
      subst e2
      simp only [older]
      omega
    · rw [if_neg e2]; exact h3
theorem yrRound_keep {F : List Sp} : ∀ (ks : List (Nat × Nat)) (b : List Sp) (m : Bool), SubB F b → (∀ k ∈ ks, k.1 < b.length ∧ k.2 < b.length ∧ yrMore F k.1 k.2 = false) → SubB F (yrRound ks (b, m)).1
  | [], b, m, h, _ => h
  | (a, c) :: ks, b, m, h, g => by
    obtain ⟨ha, hc, hm⟩ := g (a, c) (by simp)
    simp only [yrRound]
    exact yrRound_keep ks _ _ (yrStep_keep h ha hc hm) (fun k hk => by rw [yrStep_len]; exact g k (by simp [hk]))
theorem yrLoop_keep {F : List Sp} {ks : List (Nat × Nat)} : ∀ (f : Nat) (b : List Sp), SubB F b → (∀ k ∈ ks, k.1 < b.length ∧ k.2 < b.length ∧ yrMore F k.1 k.2 = false) → SubB F (yrLoop ks f b)
  | 0, b, h, _ => h
  | f + 1, b, h, g => by
    simp only [yrLoop]
    have h2 := yrRound_keep ks b false h g
    split
    · exact h
    · split
      · exact yrLoop_keep f _ h2 (fun k hk => by rw [yrRound_len]; exact g k hk)
      · exact h2
structure Yrs (t : Town) (p : List Nat) (F : Nat → Sp) : Prop where
  ne : ∀ w, w < cnt p → (F w).1 ≤ (F w).2
  sub : ∀ i, i < t.ms.length → (t.m i).lo ≤ (F (per p i)).1 ∧ (F (per p i)).2 ≤ (t.m i).hi
  fix : ∀ i, i < t.ms.length → (t.m i).par ≠ -1 → (F (per p i)).1 - 60 ≤ (F (per p (t.m i).par.toNat)).1 ∧ (F (per p (t.m i).par.toNat)).2 ≤ (F (per p i)).2 - 15 ∧ (F (per p (t.m i).par.toNat)).1 + 15 ≤ (F (per p i)).1 ∧ (F (per p i)).2 ≤ (F (per p (t.m i).par.toNat)).2 + 60
structure Fine (t : Town) (but : Nat → Bool) (p : List Nat) : Prop where
  kin : ∀ i, i < t.ms.length → (t.m i).par ≠ -1 → per p (t.m i).par.toNat ≠ per p i ∧ ∀ k, k < t.ms.length → (t.m k).par ≠ -1 → per p k = per p i → per p (t.m i).par.toNat = per p (t.m k).par.toNat
  snd : ∀ w, w < cnt p → Sounds t p w
  vil : ∀ i, i < t.ms.length → ∀ j, j < t.ms.length → per p i = per p j → Vil (t.m i).v (t.m j).v
  tie : ∀ i x, t.ties[i]? = some x → but i = false → tieB p x = true
  yrs : ∃ F, Yrs t p F
theorem tied_iff {t : Town} {but : Nat → Bool} {p : List Nat} : tiedF t but p = true ↔ ∀ i x, t.ties[i]? = some x → but i = false → tieB p x = true := by
  unfold tiedF
  rw [List.all_eq_true]
  constructor
  · intro h i x hx hb
    have := h i (List.mem_range.2 (List.getElem?_eq_some_iff.1 hx).1)
    rw [hx, hb] at this
    simpa using this
  · intro h i hi
    obtain ⟨x, hx⟩ := ex_get (List.mem_range.1 hi)
    rw [hx]
    cases hb : but i with
    | true => rfl
    | false => simpa using h i x hx hb
theorem m_some {t : Town} {i : Nat} (hi : i < t.ms.length) : t.ms[i]? = some (t.m i) := by
  obtain ⟨x, hx⟩ := ex_get hi
  rw [Town.m_get hx, hx]
theorem kid_mem {t : Town} {p : List Nat} {i : Nat} (hi : i < t.ms.length) (hp : (t.m i).par ≠ -1) : (per p (t.m i).par.toNat, per p i) ∈ kids t.ms p := kids_mem.2 ⟨i, t.m i, m_some hi, hp, rfl, rfl⟩
theorem tru_fix {t : Town} (hO : t.OK) {but : Nat → Bool} {p : List Nat} (h : Tru t but p) {i : Nat} (hi : i < t.ms.length) (hp : (t.m i).par ≠ -1) : yrMore (yearsW t p (cnt p)) (per p (t.m i).par.toNat) (per p i) = false := by
  have hk := kids_ok hO h.grp h.kin1 (Nat.le_refl (cnt p))
  have hy := h.yrs
  have hm := kid_mem (p := p) hi hp
  generalize per p (t.m i).par.toNat = a at hm ⊢
  generalize per p i = c at hm ⊢
  have e : yearsW t p (cnt p) = yearsB (kids t.ms p) (born0 t p (cnt p)) := rfl
  rw [e] at hy ⊢
  exact yearsB_fix _ _ (Nat.lt_succ_self _) hk hy (a, c) hm
theorem tru_yrs {t : Town} (hO : t.OK) {but : Nat → Bool} {p : List Nat} (h : Tru t but p) : Yrs t p (fun w => spAt (yearsW t p (cnt p)) w) := by
  have h1 := fun w (hw : w < cnt p) => h.year hO hw
  have h2 := fun i hi hp => tru_fix hO h (i := i) hi hp
  generalize yearsW t p (cnt p) = y at h1 h2
  refine ⟨fun w hw => (h1 w hw).2.1, fun i hi => ?_, fun i hi hp => yrMore_bd.1 (h2 i hi hp)⟩
  have h3 := bornAt_le t p (per p i) t.ms.length i hi rfl
  have h4 := h1 _ (h.grp.lt i hi)
  exact ⟨Int.le_trans h3.1 h4.1, Int.le_trans h4.2.2 h3.2⟩
theorem tru_fine {t : Town} (hO : t.OK) {but : Nat → Bool} {p : List Nat} (h : Tru t but p) : Fine t but p where
  kin := by
    intro i hi hp
    obtain ⟨h1, h2⟩ := kinB_iff.1 h.kin i hi hp
    refine ⟨h1, fun k hk hpk e => ?_⟩
    by_cases c : k < i
    · exact h2 k c hpk e
    · by_cases c2 : k = i
      · rw [c2]
      · exact ((kinB_iff.1 h.kin k hk hpk).2 i (by omega) hp e.symm).symm
  snd := fun w hw => ((namedR_iff hO h.grp.len (h.grp.on w hw)).1 (h.named w hw)).1
  vil := fun i hi j hj e => ((namedR_iff hO h.grp.len ⟨i, hi, rfl⟩).1 (h.named (per p i) (h.grp.lt i hi))).2 i hi rfl j hj e.symm
  tie := tied_iff.1 h.tied
  yrs := ⟨_, tru_yrs hO h⟩
def spL (n : Nat) (F : Nat → Sp) : List Sp := (List.range n).map F
theorem spL_at (n : Nat) (F : Nat → Sp) {k : Nat} (h : k < n) : spAt (spL n F) k = F k := by
  unfold spAt spL
  rw [List.getElem?_map, List.getElem?_range h]; rfl
theorem spL_len (n : Nat) (F : Nat → Sp) : (spL n F).length = n := by simp [spL]
theorem yrs_in_born {t : Town} {p : List Nat} {F : Nat → Sp} {w : Nat} (h0 : 0 ≤ (F w).1) (h1 : (F w).2 ≤ 199) : ∀ k, k ≤ t.ms.length → (∀ i, i < k → per p i = w → (t.m i).lo ≤ (F w).1 ∧ (F w).2 ≤ (t.m i).hi) → SubS1 (F w) (bornAt t p k w)
  | 0, _, _ => ⟨h0, h1⟩
  | k + 1, hk, h => by
    rw [bornAt_succ]
    obtain ⟨i1, i2⟩ := yrs_in_born h0 h1 k (by omega) (fun i hi => h i (by omega))
    split
    · rename_i e
      have := h k (by omega) e
      simp only [SubS1]
      omega
    · exact ⟨i1, i2⟩
theorem yrs_keep {t : Town} (hO : t.OK) {p : List Nat} (hg : Grp t.ms.length p) {F : Nat → Sp} (h : Yrs t p F) (hk1 : Kin1 t p) : SubB (spL (cnt p) F) (yearsW t p (cnt p)) := by
  refine yrLoop_keep _ _ ⟨by rw [spL_len, born0_len], fun k => ?_⟩ ?_
  · by_cases hk : k < cnt p
    · rw [spL_at _ _ hk, born0_get t p hk]
      obtain ⟨i, hi, he⟩ := hg.on k hk
      have s := h.sub i hi
      rw [he] at s
      have hm := hO.at hi
      have m1 := hm.lo0
      have m2 := hm.hi1
      refine yrs_in_born (by omega) (by omega) _ (Nat.le_refl _) (fun j hj e => ?_)
      have := h.sub j hj
      rw [e] at this; exact this
    · unfold spAt
      rw [List.getElem?_eq_none (by rw [spL_len]; omega), List.getElem?_eq_none (by rw [born0_len]; omega)]
      exact ⟨Int.le_refl _, Int.le_refl _⟩
  · rintro ⟨a, c⟩ hm
    obtain ⟨h1, h2, _⟩ := kids_ok hO hg hk1 (Nat.le_refl _) _ hm
    obtain ⟨i, x, hx, hp, rfl, rfl⟩ := kids_mem.1 hm
    have hi := (List.getElem?_eq_some_iff.1 hx).1
    have em := Town.m_get hx
    rw [born0_len] at h1 h2
    refine ⟨by rw [born0_len]; exact h1, by rw [born0_len]; exact h2, yrMore_bd.2 ?_⟩
    have f := h.fix i hi (by rw [em]; exact hp)
    rw [em] at f
    rw [spL_at _ _ h1, spL_at _ _ h2]
    exact f
theorem spL_ne {n : Nat} {F : Nat → Sp} (h : ∀ w, w < n → (F w).1 ≤ (F w).2) : emptyS (spL n F) = false := by
  unfold emptyS spL
  rw [List.any_eq_false]
  intro x hx
  obtain ⟨w, hw, rfl⟩ := List.mem_map.1 hx
  have := h w (List.mem_range.1 hw)
  rw [decide_eq_true_eq]
  omega
theorem fine_tru {t : Town} (hO : t.OK) {but : Nat → Bool} {p : List Nat} (hg : Grp t.ms.length p) (h : Fine t but p) : Tru t but p where
  grp := hg
  kin := kinB_iff.2 fun i hi hp => ⟨(h.kin i hi hp).1, fun k hk hpk e => (h.kin i hi hp).2 k (by omega) hpk e⟩
  yrs := by
    obtain ⟨F, hF⟩ := h.yrs
    have := yrs_keep hO hg hF (fun i hi hp => (h.kin i hi hp).1)
    cases he : emptyS (yearsW t p (cnt p)) with
    | false => rfl
    | true =>
      have := emptyS_sub this he
      rw [spL_ne hF.ne] at this
      cases this
  tied := tied_iff.2 h.tie
  named := fun w hw => (namedR_iff hO hg.len (hg.on w hw)).2 ⟨h.snd w hw, fun i hi he j hj hf => h.vil i hi j hj (by rw [he, hf])⟩
theorem truth_iff {t : Town} (hO : t.OK) {but : Nat → Bool} {p : List Nat} : p ∈ truthsL t but ↔ p ∈ groupsN t.ms.length ∧ Fine t but p := by
  rw [tru_iff]
  exact ⟨fun ⟨h1, h2⟩ => ⟨h1, tru_fine hO h2⟩, fun ⟨h1, h2⟩ => ⟨h1, fine_tru hO (groups_grp h1) h2⟩⟩
end Go.Px

namespace Go.Px
open Go.Proofs Go.MapKept
theorem fine_wider {t u : Town} (he : u.ear = t.ear) (ht : u.ties = t.ties) (hl : u.ms.length = t.ms.length)
    (hm : ∀ i, i < t.ms.length → (u.m i).sp = (t.m i).sp ∧ (u.m i).par = (t.m i).par ∧ ((u.m i).v = (t.m i).v ∨ (u.m i).v = -1) ∧ (u.m i).lo ≤ (t.m i).lo ∧ (t.m i).hi ≤ (u.m i).hi) {but : Nat → Bool} {p : List Nat} (h : Fine t but p) : Fine u but p := by
  refine ⟨?_, ?_, ?_, ?_, ?_⟩
  · intro i hi hp
    rw [hl] at hi
    obtain ⟨_, e, _⟩ := hm i hi
    rw [e] at hp ⊢
    obtain ⟨h1, h2⟩ := h.kin i hi hp
    refine ⟨h1, fun k hk hpk ek => ?_⟩
    rw [hl] at hk
    obtain ⟨_, e2, _⟩ := hm k hk
    rw [e2] at hpk ⊢
    exact h2 k hk hpk ek
  · intro w hw
    obtain ⟨g, hg⟩ := h.snd w hw
    refine ⟨g, fun i hi e => ?_⟩
    rw [hl] at hi
    rw [he, (hm i hi).1]
    exact hg i hi e
  · intro i hi j hj e
    rw [hl] at hi hj
    have := h.vil i hi j hj e
    obtain ⟨_, _, e1, _⟩ := hm i hi
    obtain ⟨_, _, e2, _⟩ := hm j hj
    unfold Vil at *
    omega
  · intro i x hx hb
    rw [ht] at hx
    exact h.tie i x hx hb
  · obtain ⟨F, hF⟩ := h.yrs
    refine ⟨F, hF.ne, fun i hi => ?_, fun i hi hp => ?_⟩
    · rw [hl] at hi
      have := hF.sub i hi
      obtain ⟨_, _, _, e1, e2⟩ := hm i hi
      omega
    · rw [hl] at hi
      obtain ⟨_, e, _⟩ := hm i hi
      rw [e] at hp ⊢
      exact hF.fix i hi hp
end Go.Px

namespace Go.Px
open Go.Proofs Go.MapKept
theorem lvalid3_ev (t : Town) (hw : t.wf) : Ev Tryz.prog 33 [.agg t.enc] (B (townE t == 0)) := by
  have e := rpcheck_ev t hw
  refine Ev.intro fn33 ?_
  refine LWp.sx (gs := []) (hs := [.ice]) rfl ⟨⟨rfl, rfl⟩, trivial⟩ ?_
  refine LWp.sx (gs := []) (hs := [.ret (.tup [I (checkT t).1, I (checkT t).2.1, I (checkT t).2.2])]) rfl ⟨e, trivial⟩ ?_
  refine LWp.sx (gs := []) (hs := []) rfl trivial ?_
  refine LWp.ret (retT (.inr rfl) (.one (.tmp ?_ rfl)))
  rfl
theorem w_mod {w : Int} (_h0 : 0 ≤ w) {n : Nat} (hn : 0 < n) : ∃ i : Nat, i < n ∧ w % (n : Int) = i := by
  refine ⟨(w % (n : Int)).toNat, ?_, ?_⟩
  · have := Int.emod_lt_of_pos w (b := (n : Int)) (by omega)
    have := Int.emod_nonneg w (b := (n : Int)) (by omega)
    omega
  · have := Int.emod_nonneg w (b := (n : Int)) (by omega)
    omega
end Go.Px

namespace Go.Px
open Go.Proofs Go.MapKept
theorem wrong_ok {t : Town} (h0 : townE t = 0) : ((wrongT t).2 = 0 ∧ ∃ s, s < 2 ^ t.ties.length ∧ setG t (sN t.ties.length s) = true ∧ (wrongT t).1 = natI (sN t.ties.length s) ∧ ∀ s', s' < 2 ^ t.ties.length → setG t (sN t.ties.length s') = true → fewerL (natI (sN t.ties.length s')) (wrongT t).1 = false) ∨
    (wrongT t = ([], 9) ∧ ∀ s, s < 2 ^ t.ties.length → setG t (sN t.ties.length s) = false) := by
  obtain ⟨i1, i2⟩ := wrong_inv t (2 ^ t.ties.length)
  unfold wrongT
  rw [if_pos h0]
  cases hf : (wrongF t (2 ^ t.ties.length)).2 with
  | true =>
    left
    rw [if_pos rfl]
    obtain ⟨s, h1, h2, h3⟩ := i1 hf
    exact ⟨rfl, s, h1, h2, h3, fun s' h4 h5 => (i2 s' h4 h5).2⟩
  | false =>
    right
    rw [if_neg (by simp)]
    refine ⟨rfl, fun s hs => ?_⟩
    cases hg : setG t (sN t.ties.length s) with
    | false => rfl
    | true => rw [(i2 s hs hg).1] at hf; cases hf
theorem fewer_le {a b : List Int} (h : fewerL a b = false) : b.length ≤ a.length := by
  unfold fewerL at h
  split at h
  · omega
  · rw [decide_eq_false_iff_not] at h; omega
theorem wrong_less {t u : Town} (h0 : townE t = 0) (h1 : townE u = 0) (hl : u.ties.length = t.ties.length) (hg : ∀ c, setG t c = true → setG u c = true) (hw : (wrongT t).2 = 0) : (wrongT u).2 = 0 ∧ (wrongT u).1.length ≤ (wrongT t).1.length := by
  rcases wrong_ok h0 with ⟨_, s, k1, k2, k3, _⟩ | ⟨k1, _⟩
  · rw [k3]
    have k2' := hg _ k2
    rw [← hl] at k1 k2' ⊢
    rcases wrong_ok h1 with ⟨j0, _, _, _, _, j4⟩ | ⟨_, j2⟩
    · exact ⟨j0, fewer_le (j4 s k1 k2')⟩
    · rw [j2 s k1] at k2'; cases k2'
  · rw [k1] at hw; cases hw
def wideM (x : Men) (a b : Int) (k : Bool) : Men := ⟨x.sp, if k = true then -1 else x.v, max 0 (x.lo - a), min 199 (x.hi + b), x.par⟩
def putT (t : Town) (m : Nat) (y : Men) : Town := { t with ms := t.ms.set m y }
theorem put_m {t : Town} {m : Nat} (hm : m < t.ms.length) (y : Men) (i : Nat) : (putT t m y).m i = if m = i then y else t.m i := by
  unfold Town.m putT
  simp only
  rw [List.getElem?_set]
  by_cases e : m = i
  · rw [if_pos e, if_pos e, if_pos (by omega)]; rfl
  · rw [if_neg e, if_neg e]
theorem put_len (t : Town) (m : Nat) (y : Men) : (putT t m y).ms.length = t.ms.length := by simp [putT]
theorem putT_OK {t : Town} (hO : t.OK) {m : Nat} (hm : m < t.ms.length) {y : Men} (hy : Men.OK t m y) : (putT t m y).OK := by
  have hl := put_len t m y
  refine ⟨hO.ear, hO.wf, hO.vil0, hO.vil1, by rw [hl]; exact hO.ms6, fun i x hx => ?_, hO.ties4, fun x hx => ?_⟩
  · have hi := (List.getElem?_eq_some_iff.1 hx).1
    rw [hl] at hi
    have e := Town.m_get hx
    rw [put_m hm] at e
    have key : Men.OK t i x := by
      by_cases c : m = i
      · rw [if_pos c] at e
        rw [← e, ← c]; exact hy
      · rw [if_neg c] at e
        rw [← e]; exact hO.at hi
    exact ⟨key.sp0, key.sp1, key.v0, key.v1, key.par0, by rw [hl]; exact key.par1, key.lo0, key.lh, key.hi1, key.own⟩
  · rw [hl]; exact hO.tie x hx
theorem putT_wf {t : Town} (hw : t.wf) {m : Nat} {y : Men} (hy : y.wf) : (putT t m y).wf := by
  refine ⟨hw.ear, hw.vil0, hw.vil1, fun x hx => ?_⟩
  rcases List.mem_or_eq_of_mem_set hx with h | h
  · exact hw.ms x h
  · rw [h]; exact hy
theorem wideM_OK {t : Town} {m : Nat} {x : Men} (h : Men.OK t m x) (hv : 1 ≤ t.vil) {a b : Int} (ha : 0 ≤ a) (hb : 0 ≤ b) (k : Bool) : Men.OK t m (wideM x a b k) := by
  have h1 := h.v0
  have h2 := h.v1
  have h3 := h.lo0
  have h4 := h.lh
  have h5 := h.hi1
  refine ⟨h.sp0, h.sp1, ?_, ?_, h.par0, h.par1, ?_, ?_, ?_, h.own⟩
  · unfold wideM; cases k <;> simp <;> omega
  · unfold wideM; cases k <;> simp <;> omega
  · unfold wideM; simp only; omega
  · unfold wideM; simp only; omega
  · unfold wideM; simp only; omega
theorem fine_wide {t : Town} {m : Nat} (hm : m < t.ms.length) (hO : t.OK) {a b : Int} (ha : 0 ≤ a) (hb : 0 ≤ b) (k : Bool) {but : Nat → Bool} {p : List Nat} (h : Fine t but p) : Fine (putT t m (wideM (t.m m) a b k)) but p := by
  refine fine_wider (t := t) (u := putT t m (wideM (t.m m) a b k)) rfl rfl (put_len _ _ _) (fun i hi => ?_) h
  rw [put_m hm]
  by_cases e : m = i
  · rw [if_pos e, ← e]
    have o := hO.at hm
    have h3 := o.lo0
    have h5 := o.hi1
    refine ⟨rfl, rfl, ?_, ?_, ?_⟩
    · unfold wideM; cases k
      · left; rfl
      · right; rfl
    · unfold wideM; simp only; omega
    · unfold wideM; simp only; omega
  · rw [if_neg e]
    exact ⟨rfl, rfl, .inl rfl, Int.le_refl _, Int.le_refl _⟩
theorem truths_wide {t u : Town} (hO : t.OK) (hOu : u.OK) (hl : u.ms.length = t.ms.length) (h : ∀ but p, Fine t but p → Fine u but p) (but : Nat → Bool) : (∀ p ∈ truthsL t but, p ∈ truthsL u but) ∧ (truthsL t but).length ≤ (truthsL u but).length := by
  constructor
  · intro p hp
    obtain ⟨h1, h2⟩ := (truth_iff hO).1 hp
    exact (truth_iff hOu).2 ⟨by rw [hl]; exact h1, h _ _ h2⟩
  · unfold truthsL
    rw [hl, ← List.countP_eq_length_filter, ← List.countP_eq_length_filter]
    refine List.countP_mono_left fun p hp hc => ?_
    have h1 : p ∈ truthsL t but := by unfold truthsL; exact List.mem_filter.2 ⟨hp, hc⟩
    have h2 := (truth_iff hOu).2 ⟨by rw [hl]; exact hp, h _ _ ((truth_iff hO).1 h1).2⟩
    unfold truthsL at h2
    exact (List.mem_filter.1 h2).2
theorem first_few {t : Town} (h0 : townE t = 0) : ((firstT t).2.2 = 0 ∨ (firstT t).2.2 = 8) ∧ (firstT t).2.1 = ((truthsL t noBut).length : Nat) := by
  unfold firstT
  by_cases h : someE t (townE t) = 0
  · rw [if_pos h]
    exact ⟨.inl rfl, rfl⟩
  · rw [if_neg h]
    have e : (truthsL t noBut).isEmpty = true := by
      cases hE : (truthsL t noBut).isEmpty with
      | true => rfl
      | false => exact absurd (someE_zero.2 ⟨h0, by intro e; rw [e] at hE; cases hE⟩) h
    have hs : someE t (townE t) = 8 := by
      unfold someE
      rw [if_neg (by simp [h0]), if_pos e]
    rw [hs, List.isEmpty_iff.1 e]
    exact ⟨.inr rfl, rfl⟩
theorem setG_wide {t u : Town} (h : ∀ but, ∀ p ∈ truthsL t but, p ∈ truthsL u but) (c : List Nat) (hg : setG t c = true) : setG u c = true := by
  unfold setG at *
  rw [Bool.not_eq_true', List.isEmpty_eq_false_iff] at hg ⊢
  obtain ⟨p, hp⟩ := List.exists_mem_of_ne_nil _ hg
  exact List.ne_nil_of_mem (h _ p hp)
theorem wide_facts {t : Town} (hw : t.wf) (h0 : townE t = 0) {m : Nat} (hm : m < t.ms.length) {a b : Int} (ha : 0 ≤ a) (hb : 0 ≤ b) (k : Bool) : (putT t m (wideM (t.m m) a b k)).wf ∧
    townE (putT t m (wideM (t.m m) a b k)) = 0 ∧ (firstT t).2.1 ≤ (firstT (putT t m (wideM (t.m m) a b k))).2.1 ∧ ((wrongT t).2 = 0 → (wrongT (putT t m (wideM (t.m m) a b k))).2 = 0 ∧ (wrongT (putT t m (wideM (t.m m) a b k))).1.length ≤ (wrongT t).1.length) := by
  obtain ⟨hO, h5⟩ := (townE_zero hw).1 h0
  have o := hO.at hm
  have oy := wideM_OK o hO.vil0 ha hb k
  have hO2 := putT_OK hO hm oy
  have v1 := hO.vil1
  have s1 := hO.ear.ss5
  have a1 := oy.sp0
  have a2 := oy.sp1
  have a3 := oy.v0
  have a4 := oy.v1
  have a5 := oy.par0
  have a6 := oy.par1
  have a7 := oy.lo0
  have a8 := oy.lh
  have a9 := oy.hi1
  have hl := put_len t m (wideM (t.m m) a b k)
  have hf : ∀ but p, Fine t but p → Fine (putT t m (wideM (t.m m) a b k)) but p := fun but p h => fine_wide hm hO ha hb k h
  have ht : (putT t m (wideM (t.m m) a b k)).ties.length = t.ties.length := rfl
  generalize wideM (t.m m) a b k = y at *
  have hw2 : (putT t m y).wf := putT_wf hw ⟨by omega, by omega, by omega, by omega, by omega, by omega, by omega, by omega, by omega, by omega⟩
  have h02 : townE (putT t m y) = 0 := (townE_zero hw2).2 ⟨hO2, by rw [hl]; exact h5⟩
  have hT := fun but => truths_wide hO hO2 hl hf but
  refine ⟨hw2, h02, ?_, wrong_less h0 h02 ht (setG_wide fun but => (hT but).1)⟩
  rw [(first_few h0).2, (first_few h02).2]
  exact Int.ofNat_le.2 (hT noBut).2
end Go.Px

