/- Part 1 of the proof of the statement LetterMended (contracts of the functions that it alone wants). No conditions. -/
import Derived.Test.YtbplgdbdpdhipaaA7
import Derived.Test.YtbplgdbdpdhipaaChecked
import Derived.KernelRfl
namespace Go.Px
open Go.Proofs
set_option maxRecDepth 100000
def L13 : LCode :=
 (.seq
 (.ops [⟨(some 3), none, .box 24 (tm 0)⟩,
 ⟨(some 5), none, .box 75 (tm 2)⟩,
 ⟨(some 6), none, .mov (.const (.bool false))⟩])
 (.seq
 (.seq
 (.ops [⟨(some 23), none, .load 24 (tm 3) (some 2)⟩,
 ⟨(some 24), none, .call 43 [(tm 23)] 4⟩,
 ⟨(some 25), none, .un .not (tm 24)⟩,
 ⟨(some 26), none, .mov (tm 25)⟩,
 ⟨(some 27), some (26, false), .faddr 24 (tm 3) 1 1⟩,
 ⟨(some 28), some (26, false), .load 22 (tm 27) none⟩,
 ⟨(some 29), some (26, false), .len false 22 3 (tm 28)⟩,
 ⟨(some 30), some (26, false), .bin .eql 3 (tm 29) (kc 0)⟩,
 ⟨(some 31), none, .pick (tm 26) (.const (.bool true)) (tm 30)⟩,
 ⟨(some 32), none, .mov (tm 31)⟩,
 ⟨(some 33), some (32, false), .mov (tm 1)⟩,
 ⟨(some 34), some (32, false), .call 48 [(tm 33)] 26⟩,
 ⟨(some 35), some (32, false), .bin .neq 26 (tm 34) (kc 0)⟩,
 ⟨(some 36), none, .pick (tm 32) (.const (.bool true)) (tm 35)⟩])
 (.ite (tm 36)
 (.seq
 (.ops [⟨(some 38), none, .load 24 (tm 3) (some 2)⟩,
 ⟨(some 39), none, .mov (tm 1)⟩,
 ⟨(some 40), none, .call 39 [(tm 38), (tm 39)] 27⟩,
 ⟨(some 37), none, .mov (tm 40)⟩,
 ⟨(some 41), none, .extract (tm 37) 0⟩,
 ⟨(some 42), none, .extract (tm 37) 1⟩,
 ⟨(some 43), none, .extract (tm 37) 2⟩,
 ⟨(some 7), none, .mov (tm 41)⟩,
 ⟨(some 8), none, .mov (tm 42)⟩,
 ⟨(some 9), none, .mov (tm 43)⟩])
 (.seq
 (.ops [⟨(some 44), none, .mov (tm 9)⟩,
 ⟨(some 45), none, .bin .neq 26 (tm 44) (kc 0)⟩,
 ⟨(some 46), none, .mov (tm 45)⟩,
 ⟨(some 47), some (46, true), .call 21 [] 4⟩,
 ⟨(some 48), none, .pick (tm 46) (tm 47) (.const (.bool false))⟩,
 ⟨(some 6), none, .mov (tm 48)⟩])
 .ret))
 .skip))
 (.seq
 (.ops [⟨(some 49), none, .load 24 (tm 3) (some 2)⟩,
 ⟨(some 50), none, .faddr 75 (tm 5) 0 0⟩,
 ⟨(some 51), none, .load 5 (tm 50) none⟩,
 ⟨(some 52), none, .call 44 [(tm 49), (tm 51)] 3⟩,
 ⟨(some 10), none, .mov (tm 52)⟩])
 (.seq
 (.ops [⟨(some 54), none, .load 24 (tm 3) (some 2)⟩,
 ⟨(some 55), none, .mov (tm 10)⟩,
 ⟨(some 56), none, .mov (tm 1)⟩,
 ⟨(some 57), none, .call 37 [(tm 54), (tm 55), (tm 56)] 53⟩,
 ⟨(some 53), none, .mov (tm 57)⟩,
 ⟨(some 58), none, .extract (tm 53) 0⟩,
 ⟨(some 59), none, .extract (tm 53) 1⟩,
 ⟨(some 11), none, .mov (tm 58)⟩,
 ⟨(some 12), none, .mov (tm 59)⟩])
 (.seq
 (.ops [⟨(some 61), none, .load 24 (tm 3) (some 2)⟩,
 ⟨(some 62), none, .mov (tm 1)⟩,
 ⟨(some 63), none, .call 22 [(tm 61), (tm 62)] 36⟩,
 ⟨(some 60), none, .mov (tm 63)⟩,
 ⟨(some 64), none, .extract (tm 60) 0⟩,
 ⟨(some 65), none, .extract (tm 60) 1⟩,
 ⟨(some 13), none, .mov (tm 64)⟩,
 ⟨(some 14), none, .mov (tm 65)⟩])
 (.seq
 (.dops [(⟨(some 66), none, .faddr 24 (tm 3) 1 1⟩, []),
 (⟨(some 67), none, .load 22 (tm 66) none⟩, [0]),
 (⟨(some 68), none, .mov (tm 10)⟩, []),
 (⟨(some 69), none, .iaddr 22 (tm 67) (tm 68) 2⟩, [1, 2]),
 (⟨(some 70), none, .load 64 (tm 69) (some 2)⟩, [3]),
 (⟨(some 71), none, .faddr 24 (tm 3) 1 1⟩, []),
 (⟨(some 72), none, .load 22 (tm 71) none⟩, [5]),
 (⟨(some 73), none, .mov (tm 10)⟩, []),
 (⟨(some 74), none, .iaddr 22 (tm 72) (tm 73) 2⟩, [6, 7]),
 (⟨(some 75), none, .load 64 (tm 74) (some 2)⟩, [8]),
 (⟨(some 76), none, .faddr 75 (tm 5) 1 1⟩, []),
 (⟨(some 77), none, .load 58 (tm 76) none⟩, [10]),
 (⟨(some 78), none, .call 45 [(tm 75), (tm 77)] 25⟩, [9, 11]),
 (⟨(some 79), none, .call 52 [(tm 70), (tm 78)] 29⟩, [4, 12, 12]),
 (⟨(some 15), none, .mov (tm 79)⟩, [13, 13, 0, 1, 2, 3, 4, 5, 6, 7, 8, 9, 10, 11, 12, 13])])
 (.seq
 (.ops [⟨(some 81), none, .mov (tm 1)⟩,
 ⟨(some 82), none, .mov (tm 15)⟩,
 ⟨(some 83), none, .call 32 [(tm 81), (tm 82)] 48⟩,
 ⟨(some 80), none, .mov (tm 83)⟩,
 ⟨(some 84), none, .extract (tm 80) 0⟩,
 ⟨(some 85), none, .extract (tm 80) 1⟩,
 ⟨(some 86), none, .extract (tm 80) 2⟩,
 ⟨(some 16), none, .mov (tm 84)⟩,
 ⟨(some 17), none, .mov (tm 85)⟩,
 ⟨(some 18), none, .mov (tm 86)⟩])
 (.seq
 (.seq
 (.ops [⟨(some 87), none, .mov (tm 12)⟩,
 ⟨(some 88), none, .bin .neq 26 (tm 87) (kc 0)⟩,
 ⟨(some 89), none, .mov (tm 88)⟩,
 ⟨(some 90), some (89, false), .mov (tm 14)⟩,
 ⟨(some 91), some (89, false), .bin .neq 26 (tm 90) (kc 0)⟩,
 ⟨(some 92), none, .pick (tm 89) (.const (.bool true)) (tm 91)⟩,
 ⟨(some 93), none, .mov (tm 92)⟩,
 ⟨(some 94), some (93, false), .mov (tm 18)⟩,
 ⟨(some 95), some (93, false), .bin .neq 26 (tm 94) (kc 0)⟩,
 ⟨(some 96), none, .pick (tm 93) (.const (.bool true)) (tm 95)⟩,
 ⟨(some 97), none, .mov (tm 96)⟩,
 ⟨(some 98), some (97, false), .mov (tm 11)⟩,
 ⟨(some 99), some (97, false), .bin .eql 3 (tm 98) (kc 0)⟩,
 ⟨(some 100), some (97, false), .mov (tm 13)⟩,
 ⟨(some 101), some (97, false), .mov (tm 10)⟩,
 ⟨(some 102), some (97, false), .call 46 [(tm 100), (tm 101)] 4⟩,
 ⟨(some 103), some (97, false), .eqT true 4 (tm 99) (tm 102)⟩,
 ⟨(some 104), none, .pick (tm 97) (.const (.bool true)) (tm 103)⟩,
 ⟨(some 105), none, .mov (tm 104)⟩,
 ⟨(some 106), some (105, false), .mov (tm 17)⟩,
 ⟨(some 107), some (105, false), .mov (tm 11)⟩,
 ⟨(some 108), some (105, false), .bin .lss 3 (tm 106) (tm 107)⟩,
 ⟨(some 109), none, .pick (tm 105) (.const (.bool true)) (tm 108)⟩,
 ⟨(some 110), none, .mov (tm 109)⟩,
 ⟨(some 111), some (110, false), .mov (tm 11)⟩,
 ⟨(some 112), some (110, false), .bin .lss 3 (tm 111) (kc 0)⟩,
 ⟨(some 113), none, .pick (tm 110) (.const (.bool true)) (tm 112)⟩])
 (.ite (tm 113)
 (.seq
 (.ops [⟨(some 6), none, .mov (.const (.bool false))⟩])
 .ret)
 .skip))
 (.seq
 (.seq
 (.ops [⟨(some 114), none, .mov (tm 1)⟩,
 ⟨(some 115), none, .len false 29 3 (tm 114)⟩,
 ⟨(some 116), none, .bin .eql 3 (tm 115) (kc 0)⟩])
 (.ite (tm 116)
 (.seq
 (.ops [⟨(some 117), none, .call 21 [] 4⟩,
 ⟨(some 6), none, .mov (tm 117)⟩])
 .ret)
 .skip))
 (.seq
 (.ops [⟨(some 118), none, .faddr 75 (tm 5) 2 2⟩,
 ⟨(some 119), none, .load 5 (tm 118) none⟩,
 ⟨(some 120), none, .toInt .i64 5 3 (tm 119)⟩,
 ⟨(some 121), none, .mov (tm 1)⟩,
 ⟨(some 122), none, .len false 29 3 (tm 121)⟩,
 ⟨(some 123), none, .bin .rem 3 (tm 120) (tm 122)⟩,
 ⟨(some 19), none, .mov (tm 123)⟩])
 (.seq
 (.dops [(⟨(some 124), none, .bslice 29 0 [] 9 1 [(.string ⟨#[]⟩)]⟩, []),
 (⟨(some 125), none, .mov (tm 1)⟩, []),
 (⟨(some 126), none, .mov (tm 19)⟩, []),
 (⟨(some 127), none, .sliceE 29 (tm 125) none (some (tm 126)) none 1⟩, [1, 2]),
 (⟨(some 128), none, .append 29 29 (tm 124) (tm 127) 9 1 16 [(.string ⟨#[]⟩)]⟩, [0, 3]),
 (⟨(some 129), none, .mov (tm 1)⟩, []),
 (⟨(some 130), none, .mov (tm 19)⟩, []),
 (⟨(some 131), none, .bin .add 3 (tm 130) (kc 1)⟩, [6]),
 (⟨(some 132), none, .sliceE 29 (tm 129) (some (tm 131)) none none 1⟩, [5, 7]),
 (⟨(some 133), none, .append 29 29 (tm 128) (tm 132) 9 1 16 [(.string ⟨#[]⟩)]⟩, [4, 8, 4]),
 (⟨(some 20), none, .mov (tm 133)⟩, [9, 9, 0, 1, 2, 3, 4, 5, 6, 7, 8, 9])])
 (.seq
 (.seq
 (.ops [⟨(some 134), none, .faddr 75 (tm 5) 3 3⟩,
 ⟨(some 135), none, .load 4 (tm 134) none⟩])
 (.ite (tm 135)
 (.dops [(⟨(some 136), none, .bslice 29 0 [] 9 1 [(.string ⟨#[]⟩)]⟩, []),
 (⟨(some 137), none, .mov (tm 1)⟩, []),
 (⟨(some 138), none, .mov (tm 19)⟩, []),
 (⟨(some 139), none, .sliceE 29 (tm 137) none (some (tm 138)) none 1⟩, [1, 2]),
 (⟨(some 140), none, .append 29 29 (tm 136) (tm 139) 9 1 16 [(.string ⟨#[]⟩)]⟩, [0, 3]),
 (⟨(some 141), none, .bslice 29 1 [(0, (.const (.string ⟨#[122, 122]⟩)))] 9 1 [(.string ⟨#[]⟩)]⟩, []),
 (⟨(some 142), none, .append 29 29 (tm 140) (tm 141) 9 1 16 [(.string ⟨#[]⟩)]⟩, [4, 5, 4]),
 (⟨(some 143), none, .mov (tm 1)⟩, []),
 (⟨(some 144), none, .mov (tm 19)⟩, []),
 (⟨(some 145), none, .bin .add 3 (tm 144) (kc 1)⟩, [8]),
 (⟨(some 146), none, .sliceE 29 (tm 143) (some (tm 145)) none none 1⟩, [7, 9]),
 (⟨(some 147), none, .append 29 29 (tm 142) (tm 146) 9 1 16 [(.string ⟨#[]⟩)]⟩, [6, 10, 6]),
 (⟨(some 20), none, .mov (tm 147)⟩, [11, 11, 0, 1, 2, 3, 4, 5, 6, 7, 8, 9, 10, 11])])
 .skip))
 (.seq
 (.ops [⟨(some 149), none, .load 24 (tm 3) (some 2)⟩,
 ⟨(some 150), none, .mov (tm 10)⟩,
 ⟨(some 151), none, .mov (tm 20)⟩,
 ⟨(some 152), none, .call 37 [(tm 149), (tm 150), (tm 151)] 53⟩,
 ⟨(some 148), none, .mov (tm 152)⟩,
 ⟨(some 153), none, .extract (tm 148) 0⟩,
 ⟨(some 154), none, .extract (tm 148) 1⟩,
 ⟨(some 21), none, .mov (tm 153)⟩,
 ⟨(some 22), none, .mov (tm 154)⟩])
 (.seq
 (.ops [⟨(some 155), none, .mov (tm 22)⟩,
 ⟨(some 156), none, .bin .eql 26 (tm 155) (kc 0)⟩,
 ⟨(some 157), none, .mov (tm 156)⟩,
 ⟨(some 158), some (157, true), .mov (tm 21)⟩,
 ⟨(some 159), some (157, true), .mov (tm 11)⟩,
 ⟨(some 160), some (157, true), .bin .sub 3 (tm 159) (kc 1)⟩,
 ⟨(some 161), some (157, true), .mov (tm 11)⟩,
 ⟨(some 162), some (157, true), .bin .add 3 (tm 161) (kc 1)⟩,
 ⟨(some 163), some (157, true), .call 53 [(tm 158), (tm 160), (tm 162)] 4⟩,
 ⟨(some 164), none, .pick (tm 157) (tm 163) (.const (.bool false))⟩,
 ⟨(some 165), none, .mov (tm 164)⟩,
 ⟨(some 166), some (165, true), .call 21 [] 4⟩,
 ⟨(some 167), none, .pick (tm 165) (tm 166) (.const (.bool false))⟩,
 ⟨(some 6), none, .mov (tm 167)⟩])
 .ret))))))))))))))
theorem fn13 : FnOK Try.prog 13 168 [.tmp 6] L13 := ⟨Try.f13, Try.func13, by kernel_rfl, Try.ntmps13, by rw [Try.results13], by kernel_rfl⟩
def L17 : LCode :=
 (.seq
 (.ops [⟨(some 1), none, .box 24 (tm 0)⟩,
 ⟨(some 2), none, .mov (kc 0)⟩,
 ⟨(some 3), none, .mov (kc 0)⟩,
 ⟨(some 4), none, .mov (kc 0)⟩])
 (.seq
 (.seq
 (.ops [⟨(some 10), none, .faddr 24 (tm 1) 0 0⟩,
 ⟨(some 11), none, .load 3 (tm 10) none⟩,
 ⟨(some 12), none, .call 53 [(tm 11), (kc 8), (kc 30)] 4⟩,
 ⟨(some 13), none, .un .not (tm 12)⟩])
 (.ite (tm 13)
 (.seq
 (.ops [⟨(some 2), none, .mov (kc 1)⟩,
 ⟨(some 3), none, .mov (kc 0)⟩,
 ⟨(some 4), none, .mov (kc 7)⟩])
 .ret)
 .skip))
 (.seq
 (.seq
 (.ops [⟨(some 14), none, .faddr 24 (tm 1) 1 1⟩,
 ⟨(some 15), none, .load 22 (tm 14) none⟩,
 ⟨(some 16), none, .len false 22 3 (tm 15)⟩,
 ⟨(some 17), none, .bin .gtr 3 (tm 16) (kc 4)⟩])
 (.ite (tm 17)
 (.seq
 (.ops [⟨(some 2), none, .mov (kc 2)⟩,
 ⟨(some 3), none, .mov (kc 0)⟩,
 ⟨(some 4), none, .mov (kc 3)⟩])
 .ret)
 .skip))
 (.seq
 (.ops [⟨(some 5), none, .mov (.const (.slice none 0 0))⟩])
 (.seq
 (.seq
 (.ops [⟨(some 6), none, .mov (kc 0)⟩])
 (.block 0
 (.loop
 (.seq
 (.seq
 (.ops [⟨(some 18), none, .mov (tm 6)⟩,
 ⟨(some 19), none, .faddr 24 (tm 1) 1 1⟩,
 ⟨(some 20), none, .load 22 (tm 19) none⟩,
 ⟨(some 21), none, .len false 22 3 (tm 20)⟩,
 ⟨(some 22), none, .bin .lss 3 (tm 18) (tm 21)⟩])
 (.ite (tm 22)
 .skip
 (.exit 0)))
 (.seq
 (.block 1
 (.seq
 (.ops [⟨(some 25), none, .faddr 24 (tm 1) 1 1⟩,
 ⟨(some 26), none, .load 22 (tm 25) none⟩,
 ⟨(some 27), none, .mov (tm 6)⟩,
 ⟨(some 28), none, .iaddr 22 (tm 26) (tm 27) 2⟩,
 ⟨(some 29), none, .load 64 (tm 28) (some 2)⟩,
 ⟨(some 7), none, .alloc 64 [(.string ⟨#[]⟩), (.slice none 0 0)]⟩,
 ⟨none, none, .store 64 (tm 7) (tm 29) 2⟩])
 (.seq
 (.ops [⟨(some 30), none, .faddr 64 (tm 7) 0 0⟩,
 ⟨(some 31), none, .load 9 (tm 30) none⟩,
 ⟨(some 32), none, .mov (tm 5)⟩,
 ⟨(some 33), none, .call 62 [(tm 31), (tm 32)] 26⟩,
 ⟨(some 8), none, .mov (tm 33)⟩])
 (.seq
 (.ops [⟨(some 34), none, .mov (tm 5)⟩,
 ⟨(some 35), none, .faddr 64 (tm 7) 0 0⟩,
 ⟨(some 36), none, .load 9 (tm 35) none⟩,
 ⟨(some 37), none, .bslice 29 1 [(0, (tm 36))] 9 1 [(.string ⟨#[]⟩)]⟩,
 ⟨(some 38), none, .append 29 29 (tm 34) (tm 37) 9 1 16 [(.string ⟨#[]⟩)]⟩,
 ⟨(some 5), none, .mov (tm 38)⟩])
 (.seq
 (.seq
 (.ops [⟨(some 39), none, .mov (tm 8)⟩,
 ⟨(some 40), none, .bin .eql 26 (tm 39) (kc 0)⟩,
 ⟨(some 41), none, .mov (tm 40)⟩,
 ⟨(some 42), some (41, true), .faddr 64 (tm 7) 1 1⟩,
 ⟨(some 43), some (41, true), .load 62 (tm 42) none⟩,
 ⟨(some 44), some (41, true), .len false 62 3 (tm 43)⟩,
 ⟨(some 45), some (41, true), .bin .gtr 3 (tm 44) (kc 5)⟩,
 ⟨(some 46), none, .pick (tm 41) (tm 45) (.const (.bool false))⟩])
 (.ite (tm 46)
 (.ops [⟨(some 8), none, .mov (kc 3)⟩])
 .skip))
 (.seq
 (.seq
 (.ops [⟨(some 9), none, .mov (kc 0)⟩])
 (.block 2
 (.loop
 (.seq
 (.seq
 (.ops [⟨(some 47), none, .mov (tm 9)⟩,
 ⟨(some 48), none, .faddr 64 (tm 7) 1 1⟩,
 ⟨(some 49), none, .load 62 (tm 48) none⟩,
 ⟨(some 50), none, .len false 62 3 (tm 49)⟩,
 ⟨(some 51), none, .bin .lss 3 (tm 47) (tm 50)⟩,
 ⟨(some 52), none, .mov (tm 51)⟩,
 ⟨(some 53), some (52, true), .mov (tm 8)⟩,
 ⟨(some 54), some (52, true), .bin .eql 26 (tm 53) (kc 0)⟩,
 ⟨(some 55), none, .pick (tm 52) (tm 54) (.const (.bool false))⟩])
 (.ite (tm 55)
 .skip
 (.exit 2)))
 (.seq
 (.block 3
 (.ops [⟨(some 58), none, .faddr 64 (tm 7) 1 1⟩,
 ⟨(some 59), none, .load 62 (tm 58) none⟩,
 ⟨(some 60), none, .mov (tm 9)⟩,
 ⟨(some 61), none, .iaddr 62 (tm 59) (tm 60) 3⟩,
 ⟨(some 62), none, .load 84 (tm 61) (some 3)⟩,
 ⟨(some 63), none, .call 63 [(tm 62)] 26⟩,
 ⟨(some 8), none, .mov (tm 63)⟩]))
 (.ops [⟨(some 56), none, .mov (tm 9)⟩,
 ⟨(some 57), none, .bin .add 3 (tm 56) (kc 1)⟩,
 ⟨(some 9), none, .mov (tm 57)⟩]))))))
 (.seq
 (.ops [⟨(some 64), none, .mov (tm 8)⟩,
 ⟨(some 65), none, .bin .neq 26 (tm 64) (kc 0)⟩])
 (.ite (tm 65)
 (.seq
 (.ops [⟨(some 66), none, .mov (tm 6)⟩,
 ⟨(some 67), none, .mov (tm 8)⟩,
 ⟨(some 2), none, .mov (kc 2)⟩,
 ⟨(some 3), none, .mov (tm 66)⟩,
 ⟨(some 4), none, .mov (tm 67)⟩])
 .ret)
 .skip))))))))
 (.ops [⟨(some 23), none, .mov (tm 6)⟩,
 ⟨(some 24), none, .bin .add 3 (tm 23) (kc 1)⟩,
 ⟨(some 6), none, .mov (tm 24)⟩]))))))
 (.seq
 (.ops [⟨(some 2), none, .mov (kc 0)⟩,
 ⟨(some 3), none, .mov (kc 0)⟩,
 ⟨(some 4), none, .mov (kc 0)⟩])
 .ret))))))
theorem fn17 : FnOK Try.prog 17 68 [.tmp 2, .tmp 3, .tmp 4] L17 := ⟨Try.f17, Try.func17, by kernel_rfl, Try.ntmps17, by rw [Try.results17], by kernel_rfl⟩
def L43 : LCode :=
 (.seq
 (.ops [⟨(some 1), none, .box 24 (tm 0)⟩,
 ⟨(some 2), none, .mov (.const (.bool false))⟩])
 (.seq
 (.ops [⟨(some 7), none, .load 24 (tm 1) (some 2)⟩,
 ⟨(some 8), none, .call 17 [(tm 7)] 27⟩,
 ⟨(some 6), none, .mov (tm 8)⟩,
 ⟨(some 9), none, .extract (tm 6) 0⟩,
 ⟨(some 10), none, .extract (tm 6) 1⟩,
 ⟨(some 11), none, .extract (tm 6) 2⟩,
 ⟨(some 3), none, .mov (tm 9)⟩,
 ⟨(some 4), none, .mov (tm 10)⟩,
 ⟨(some 5), none, .mov (tm 11)⟩])
 (.seq
 (.ops [⟨(some 12), none, .mov (tm 5)⟩,
 ⟨(some 13), none, .bin .eql 26 (tm 12) (kc 0)⟩,
 ⟨(some 2), none, .mov (tm 13)⟩])
 .ret)))
theorem fn43 : FnOK Try.prog 43 14 [.tmp 2] L43 := ⟨Try.f43, Try.func43, by kernel_rfl, Try.ntmps43, by rw [Try.results43], by kernel_rfl⟩
def L44 : LCode :=
 (.seq
 (.ops [⟨(some 2), none, .box 24 (tm 0)⟩,
 ⟨(some 4), none, .mov (kc 0)⟩])
 (.seq
 (.ops [⟨(some 5), none, .mov (tm 1)⟩,
 ⟨(some 6), none, .toInt .i64 5 3 (tm 5)⟩,
 ⟨(some 7), none, .faddr 24 (tm 2) 1 1⟩,
 ⟨(some 8), none, .load 22 (tm 7) none⟩,
 ⟨(some 9), none, .len false 22 3 (tm 8)⟩,
 ⟨(some 10), none, .bin .rem 3 (tm 6) (tm 9)⟩,
 ⟨(some 4), none, .mov (tm 10)⟩])
 .ret))
theorem fn44 : FnOK Try.prog 44 11 [.tmp 4] L44 := ⟨Try.f44, Try.func44, by kernel_rfl, Try.ntmps44, by rw [Try.results44], by kernel_rfl⟩
def L45 : LCode :=
 (.seq
 (.ops [⟨(some 2), none, .box 64 (tm 0)⟩,
 ⟨(some 4), none, .mov (.const (.slice none 0 0))⟩])
 (.seq
 (.ops [⟨(some 12), none, .load 64 (tm 2) (some 2)⟩,
 ⟨(some 13), none, .call 68 [(tm 12)] 97⟩,
 ⟨(some 5), none, .mov (tm 13)⟩])
 (.seq
 (.ops [⟨(some 6), none, .mov (.const (.slice none 0 0))⟩])
 (.seq
 (.ops [⟨(some 7), none, .mov (kc 0)⟩])
 (.seq
 (.seq
 (.ops [⟨(some 8), none, .mov (kc 0)⟩])
 (.block 0
 (.loop
 (.seq
 (.seq
 (.ops [⟨(some 14), none, .mov (tm 8)⟩,
 ⟨(some 15), none, .mov (tm 5)⟩,
 ⟨(some 16), none, .len false 97 3 (tm 15)⟩,
 ⟨(some 17), none, .bin .lss 3 (tm 14) (tm 16)⟩])
 (.ite (tm 17)
 .skip
 (.exit 0)))
 (.seq
 (.block 1
 (.seq
 (.dops [(⟨(some 20), none, .mov (tm 5)⟩, []),
 (⟨(some 21), none, .mov (tm 8)⟩, []),
 (⟨(some 22), none, .iaddr 97 (tm 20) (tm 21) 2⟩, [0, 1]),
 (⟨(some 23), none, .faddr 82 (tm 22) 0 0⟩, [2]),
 (⟨(some 24), none, .load 3 (tm 23) none⟩, [3]),
 (⟨(some 25), none, .mov (tm 1)⟩, []),
 (⟨(some 26), none, .mov (tm 7)⟩, []),
 (⟨(some 27), none, .call 93 [(tm 25), (tm 26)] 3⟩, [5, 6]),
 (⟨(some 28), none, .mov (tm 5)⟩, []),
 (⟨(some 29), none, .mov (tm 8)⟩, []),
 (⟨(some 30), none, .iaddr 97 (tm 28) (tm 29) 2⟩, [8, 9]),
 (⟨(some 31), none, .faddr 82 (tm 30) 1 1⟩, [10]),
 (⟨(some 32), none, .load 3 (tm 31) none⟩, [11]),
 (⟨(some 33), none, .mov (tm 5)⟩, []),
 (⟨(some 34), none, .mov (tm 8)⟩, []),
 (⟨(some 35), none, .iaddr 97 (tm 33) (tm 34) 2⟩, [13, 14]),
 (⟨(some 36), none, .faddr 82 (tm 35) 0 0⟩, [15]),
 (⟨(some 37), none, .load 3 (tm 36) none⟩, [16]),
 (⟨(some 38), none, .bin .sub 3 (tm 32) (tm 37)⟩, [12, 17]),
 (⟨(some 39), none, .bin .add 3 (tm 38) (kc 1)⟩, [18]),
 (⟨(some 40), none, .bin .rem 3 (tm 27) (tm 39)⟩, [7, 19]),
 (⟨(some 41), none, .bin .add 3 (tm 24) (tm 40)⟩, [4, 20]),
 (⟨(some 9), none, .mov (tm 41)⟩, [21, 7, 0, 1, 2, 3, 4, 5, 6, 7, 8, 9, 10, 11, 12, 13, 14, 15, 16, 17, 18, 19, 20, 21])])
 (.seq
 (.ops [⟨(some 42), none, .mov (tm 7)⟩,
 ⟨(some 43), none, .bin .add 3 (tm 42) (kc 1)⟩,
 ⟨(some 7), none, .mov (tm 43)⟩])
 (.seq
 (.ops [⟨(some 10), none, .mov (.const (.slice none 0 0))⟩])
 (.seq
 (.seq
 (.ops [⟨(some 11), none, .mov (kc 0)⟩])
 (.block 2
 (.loop
 (.seq
 (.seq
 (.ops [⟨(some 44), none, .mov (tm 11)⟩,
 ⟨(some 45), none, .mov (tm 9)⟩,
 ⟨(some 46), none, .bin .lss 3 (tm 44) (tm 45)⟩])
 (.ite (tm 46)
 .skip
 (.exit 2)))
 (.seq
 (.block 3
 (.seq
 (.ops [⟨(some 49), none, .mov (tm 10)⟩,
 ⟨(some 50), none, .call 94 [] 29⟩,
 ⟨(some 51), none, .mov (tm 1)⟩,
 ⟨(some 52), none, .mov (tm 7)⟩,
 ⟨(some 53), none, .call 93 [(tm 51), (tm 52)] 3⟩,
 ⟨(some 54), none, .call 94 [] 29⟩,
 ⟨(some 55), none, .len false 29 3 (tm 54)⟩,
 ⟨(some 56), none, .bin .rem 3 (tm 53) (tm 55)⟩,
 ⟨(some 57), none, .iaddr 29 (tm 50) (tm 56) 1⟩,
 ⟨(some 58), none, .load 9 (tm 57) none⟩,
 ⟨(some 59), none, .bslice 29 1 [(0, (tm 58))] 9 1 [(.string ⟨#[]⟩)]⟩,
 ⟨(some 60), none, .append 29 29 (tm 49) (tm 59) 9 1 16 [(.string ⟨#[]⟩)]⟩,
 ⟨(some 10), none, .mov (tm 60)⟩])
 (.ops [⟨(some 61), none, .mov (tm 7)⟩,
 ⟨(some 62), none, .bin .add 3 (tm 61) (kc 1)⟩,
 ⟨(some 7), none, .mov (tm 62)⟩])))
 (.ops [⟨(some 47), none, .mov (tm 11)⟩,
 ⟨(some 48), none, .bin .add 3 (tm 47) (kc 1)⟩,
 ⟨(some 11), none, .mov (tm 48)⟩]))))))
 (.ops [⟨(some 63), none, .bslice 25 0 [] 29 1 [(.slice none 0 0)]⟩,
 ⟨(some 64), none, .mov (tm 6)⟩,
 ⟨(some 65), none, .append 25 25 (tm 63) (tm 64) 29 1 24 [(.slice none 0 0)]⟩,
 ⟨(some 66), none, .mov (tm 10)⟩,
 ⟨(some 67), none, .bslice 25 1 [(0, (tm 66))] 29 1 [(.slice none 0 0)]⟩,
 ⟨(some 68), none, .append 25 25 (tm 65) (tm 67) 29 1 24 [(.slice none 0 0)]⟩,
 ⟨(some 6), none, .mov (tm 68)⟩]))))))
 (.ops [⟨(some 18), none, .mov (tm 8)⟩,
 ⟨(some 19), none, .bin .add 3 (tm 18) (kc 1)⟩,
 ⟨(some 8), none, .mov (tm 19)⟩]))))))
 (.seq
 (.ops [⟨(some 69), none, .mov (tm 6)⟩,
 ⟨(some 4), none, .mov (tm 69)⟩])
 .ret))))))
theorem fn45 : FnOK Try.prog 45 70 [.tmp 4] L45 := ⟨Try.f45, Try.func45, by kernel_rfl, Try.ntmps45, by rw [Try.results45], by kernel_rfl⟩
def L46 : LCode :=
 (.seq
 (.ops [⟨(some 4), none, .mov (.const (.bool false))⟩])
 (.seq
 (.ops [⟨(some 5), none, .mov (.const (.bool false))⟩])
 (.seq
 (.seq
 (.ops [⟨(some 6), none, .mov (kc 0)⟩])
 (.block 0
 (.loop
 (.seq
 (.seq
 (.ops [⟨(some 7), none, .mov (tm 6)⟩,
 ⟨(some 8), none, .mov (tm 0)⟩,
 ⟨(some 9), none, .len false 35 3 (tm 8)⟩,
 ⟨(some 10), none, .bin .lss 3 (tm 7) (tm 9)⟩])
 (.ite (tm 10)
 .skip
 (.exit 0)))
 (.seq
 (.block 1
 (.ops [⟨(some 13), none, .mov (tm 5)⟩,
 ⟨(some 14), none, .mov (tm 13)⟩,
 ⟨(some 15), some (14, false), .mov (tm 0)⟩,
 ⟨(some 16), some (14, false), .mov (tm 6)⟩,
 ⟨(some 17), some (14, false), .iaddr 35 (tm 15) (tm 16) 1⟩,
 ⟨(some 18), some (14, false), .load 3 (tm 17) none⟩,
 ⟨(some 19), some (14, false), .mov (tm 1)⟩,
 ⟨(some 20), some (14, false), .bin .eql 3 (tm 18) (tm 19)⟩,
 ⟨(some 21), none, .pick (tm 14) (.const (.bool true)) (tm 20)⟩,
 ⟨(some 5), none, .mov (tm 21)⟩]))
 (.ops [⟨(some 11), none, .mov (tm 6)⟩,
 ⟨(some 12), none, .bin .add 3 (tm 11) (kc 1)⟩,
 ⟨(some 6), none, .mov (tm 12)⟩]))))))
 (.seq
 (.ops [⟨(some 22), none, .mov (tm 5)⟩,
 ⟨(some 4), none, .mov (tm 22)⟩])
 .ret))))
theorem fn46 : FnOK Try.prog 46 23 [.tmp 4] L46 := ⟨Try.f46, Try.func46, by kernel_rfl, Try.ntmps46, by rw [Try.results46], by kernel_rfl⟩
def L48 : LCode :=
 (.seq
 (.ops [⟨(some 2), none, .mov (kc 0)⟩])
 (.seq
 (.seq
 (.ops [⟨(some 3), none, .mov (tm 0)⟩,
 ⟨(some 4), none, .len false 29 3 (tm 3)⟩,
 ⟨(some 5), none, .bin .gtr 3 (tm 4) (kc 15)⟩])
 (.ite (tm 5)
 (.seq
 (.ops [⟨(some 2), none, .mov (kc 3)⟩])
 .ret)
 .skip))
 (.seq
 (.seq
 (.ops [⟨(some 6), none, .mov (tm 0)⟩,
 ⟨(some 7), none, .call 95 [(tm 6)] 4⟩,
 ⟨(some 8), none, .un .not (tm 7)⟩])
 (.ite (tm 8)
 (.seq
 (.ops [⟨(some 2), none, .mov (kc 6)⟩])
 .ret)
 .skip))
 (.seq
 (.ops [⟨(some 2), none, .mov (kc 0)⟩])
 .ret))))
theorem fn48 : FnOK Try.prog 48 9 [.tmp 2] L48 := ⟨Try.f48, Try.func48, by kernel_rfl, Try.ntmps48, by rw [Try.results48], by kernel_rfl⟩
def L52 : LCode :=
 (.seq
 (.ops [⟨(some 2), none, .box 64 (tm 0)⟩,
 ⟨(some 4), none, .mov (.const (.slice none 0 0))⟩])
 (.seq
 (.ops [⟨(some 5), none, .mov (.const (.slice none 0 0))⟩])
 (.seq
 (.ops [⟨(some 6), none, .mov (kc 0)⟩])
 (.seq
 (.seq
 (.ops [⟨(some 7), none, .mov (kc 0)⟩])
 (.block 0
 (.loop
 (.seq
 (.seq
 (.ops [⟨(some 8), none, .mov (tm 7)⟩,
 ⟨(some 9), none, .faddr 64 (tm 2) 1 1⟩,
 ⟨(some 10), none, .load 62 (tm 9) none⟩,
 ⟨(some 11), none, .len false 62 3 (tm 10)⟩,
 ⟨(some 12), none, .bin .lss 3 (tm 8) (tm 11)⟩])
 (.ite (tm 12)
 .skip
 (.exit 0)))
 (.seq
 (.block 1
 (.seq
 (.seq
 (.ops [⟨(some 15), none, .faddr 64 (tm 2) 1 1⟩,
 ⟨(some 16), none, .load 62 (tm 15) none⟩,
 ⟨(some 17), none, .mov (tm 7)⟩,
 ⟨(some 18), none, .iaddr 62 (tm 16) (tm 17) 3⟩,
 ⟨(some 19), none, .load 84 (tm 18) (some 3)⟩,
 ⟨(some 20), none, .call 55 [(tm 19)] 4⟩,
 ⟨(some 21), none, .un .not (tm 20)⟩])
 (.ite (tm 21)
 (.seq
 (.ops [⟨(some 22), none, .mov (tm 5)⟩,
 ⟨(some 23), none, .faddr 64 (tm 2) 1 1⟩,
 ⟨(some 24), none, .load 62 (tm 23) none⟩,
 ⟨(some 25), none, .mov (tm 7)⟩,
 ⟨(some 26), none, .iaddr 62 (tm 24) (tm 25) 3⟩,
 ⟨(some 27), none, .faddr 84 (tm 26) 0 0⟩,
 ⟨(some 28), none, .load 29 (tm 27) none⟩,
 ⟨(some 29), none, .append 29 29 (tm 22) (tm 28) 9 1 16 [(.string ⟨#[]⟩)]⟩,
 ⟨(some 5), none, .mov (tm 29)⟩])
 (.exit 1))
 .skip))
 (.seq
 (.ops [⟨(some 30), none, .mov (tm 5)⟩,
 ⟨(some 31), none, .mov (tm 1)⟩,
 ⟨(some 32), none, .mov (tm 6)⟩,
 ⟨(some 33), none, .iaddr 25 (tm 31) (tm 32) 1⟩,
 ⟨(some 34), none, .load 29 (tm 33) none⟩,
 ⟨(some 35), none, .append 29 29 (tm 30) (tm 34) 9 1 16 [(.string ⟨#[]⟩)]⟩,
 ⟨(some 5), none, .mov (tm 35)⟩])
 (.ops [⟨(some 36), none, .mov (tm 6)⟩,
 ⟨(some 37), none, .bin .add 3 (tm 36) (kc 1)⟩,
 ⟨(some 6), none, .mov (tm 37)⟩]))))
 (.ops [⟨(some 13), none, .mov (tm 7)⟩,
 ⟨(some 14), none, .bin .add 3 (tm 13) (kc 1)⟩,
 ⟨(some 7), none, .mov (tm 14)⟩]))))))
 (.seq
 (.ops [⟨(some 38), none, .mov (tm 5)⟩,
 ⟨(some 4), none, .mov (tm 38)⟩])
 .ret)))))
theorem fn52 : FnOK Try.prog 52 39 [.tmp 4] L52 := ⟨Try.f52, Try.func52, by kernel_rfl, Try.ntmps52, by rw [Try.results52], by kernel_rfl⟩
def L53 : LCode :=
 (.seq
 (.ops [⟨(some 6), none, .mov (.const (.bool false))⟩])
 (.seq
 (.ops [⟨(some 7), none, .mov (tm 0)⟩,
 ⟨(some 8), none, .mov (tm 1)⟩,
 ⟨(some 9), none, .bin .geq 3 (tm 7) (tm 8)⟩,
 ⟨(some 10), none, .mov (tm 9)⟩,
 ⟨(some 11), some (10, true), .mov (tm 0)⟩,
 ⟨(some 12), some (10, true), .mov (tm 2)⟩,
 ⟨(some 13), some (10, true), .bin .leq 3 (tm 11) (tm 12)⟩,
 ⟨(some 14), none, .pick (tm 10) (tm 13) (.const (.bool false))⟩,
 ⟨(some 6), none, .mov (tm 14)⟩])
 .ret))
theorem fn53 : FnOK Try.prog 53 15 [.tmp 6] L53 := ⟨Try.f53, Try.func53, by kernel_rfl, Try.ntmps53, by rw [Try.results53], by kernel_rfl⟩
def L55 : LCode :=
 (.seq
 (.ops [⟨(some 1), none, .box 84 (tm 0)⟩,
 ⟨(some 2), none, .mov (.const (.bool false))⟩])
 (.seq
 (.ops [⟨(some 3), none, .faddr 84 (tm 1) 0 0⟩,
 ⟨(some 4), none, .load 29 (tm 3) none⟩,
 ⟨(some 5), none, .len false 29 3 (tm 4)⟩,
 ⟨(some 6), none, .bin .eql 3 (tm 5) (kc 0)⟩,
 ⟨(some 2), none, .mov (tm 6)⟩])
 .ret))
theorem fn55 : FnOK Try.prog 55 7 [.tmp 2] L55 := ⟨Try.f55, Try.func55, by kernel_rfl, Try.ntmps55, by rw [Try.results55], by kernel_rfl⟩
def L62 : LCode :=
 (.seq
 (.ops [⟨(some 4), none, .mov (kc 0)⟩])
 (.seq
 (.ops [⟨(some 5), none, .mov (kc 0)⟩])
 (.seq
 (.seq
 (.ops [⟨(some 6), none, .mov (tm 1)⟩,
 ⟨(some 7), none, .mov (tm 0)⟩,
 ⟨(some 8), none, .call 100 [(tm 6), (tm 7)] 3⟩,
 ⟨(some 9), none, .bin .geq 3 (tm 8) (kc 0)⟩])
 (.ite (tm 9)
 (.ops [⟨(some 5), none, .mov (kc 5)⟩])
 .skip))
 (.seq
 (.seq
 (.ops [⟨(some 10), none, .mov (tm 0)⟩,
 ⟨(some 11), none, .call 101 [(tm 10)] 4⟩,
 ⟨(some 12), none, .un .not (tm 11)⟩])
 (.ite (tm 12)
 (.ops [⟨(some 5), none, .mov (kc 6)⟩])
 .skip))
 (.seq
 (.ops [⟨(some 13), none, .mov (tm 5)⟩,
 ⟨(some 4), none, .mov (tm 13)⟩])
 .ret)))))
theorem fn62 : FnOK Try.prog 62 14 [.tmp 4] L62 := ⟨Try.f62, Try.func62, by kernel_rfl, Try.ntmps62, by rw [Try.results62], by kernel_rfl⟩
def L63 : LCode :=
 (.seq
 (.ops [⟨(some 1), none, .box 84 (tm 0)⟩,
 ⟨(some 2), none, .mov (kc 0)⟩])
 (.seq
 (.seq
 (.ops [⟨(some 3), none, .faddr 84 (tm 1) 0 0⟩,
 ⟨(some 4), none, .load 29 (tm 3) none⟩,
 ⟨(some 5), none, .len false 29 3 (tm 4)⟩,
 ⟨(some 6), none, .bin .gtr 3 (tm 5) (kc 3)⟩])
 (.ite (tm 6)
 (.seq
 (.ops [⟨(some 2), none, .mov (kc 3)⟩])
 .ret)
 .skip))
 (.seq
 (.seq
 (.ops [⟨(some 7), none, .faddr 84 (tm 1) 0 0⟩,
 ⟨(some 8), none, .load 29 (tm 7) none⟩,
 ⟨(some 9), none, .call 95 [(tm 8)] 4⟩,
 ⟨(some 10), none, .un .not (tm 9)⟩])
 (.ite (tm 10)
 (.seq
 (.ops [⟨(some 2), none, .mov (kc 6)⟩])
 .ret)
 .skip))
 (.seq
 (.seq
 (.ops [⟨(some 11), none, .load 84 (tm 1) (some 3)⟩,
 ⟨(some 12), none, .call 55 [(tm 11)] 4⟩,
 ⟨(some 13), none, .un .not (tm 12)⟩])
 (.ite (tm 13)
 (.seq
 (.seq
 (.ops [⟨(some 14), none, .faddr 84 (tm 1) 1 1⟩,
 ⟨(some 15), none, .load 82 (tm 14) (some 2)⟩,
 ⟨(some 16), none, .build 82 [] [(.int .i64 0), (.int .i64 0)] []⟩,
 ⟨(some 17), none, .eqT true 82 (tm 15) (tm 16)⟩])
 (.ite (tm 17)
 (.seq
 (.ops [⟨(some 2), none, .mov (kc 2)⟩])
 .ret)
 .skip))
 (.seq
 (.ops [⟨(some 2), none, .mov (kc 0)⟩])
 .ret))
 .skip))
 (.seq
 (.seq
 (.ops [⟨(some 18), none, .faddr 84 (tm 1) 1 1⟩,
 ⟨(some 19), none, .faddr 82 (tm 18) 0 0⟩,
 ⟨(some 20), none, .load 3 (tm 19) none⟩,
 ⟨(some 21), none, .call 53 [(tm 20), (kc 0), (kc 3)] 4⟩,
 ⟨(some 22), none, .un .not (tm 21)⟩,
 ⟨(some 23), none, .mov (tm 22)⟩,
 ⟨(some 24), some (23, false), .faddr 84 (tm 1) 1 1⟩,
 ⟨(some 25), some (23, false), .faddr 82 (tm 24) 1 1⟩,
 ⟨(some 26), some (23, false), .load 3 (tm 25) none⟩,
 ⟨(some 27), some (23, false), .call 53 [(tm 26), (kc 1), (kc 3)] 4⟩,
 ⟨(some 28), some (23, false), .un .not (tm 27)⟩,
 ⟨(some 29), none, .pick (tm 23) (.const (.bool true)) (tm 28)⟩])
 (.ite (tm 29)
 (.seq
 (.ops [⟨(some 2), none, .mov (kc 7)⟩])
 .ret)
 .skip))
 (.seq
 (.seq
 (.ops [⟨(some 30), none, .faddr 84 (tm 1) 1 1⟩,
 ⟨(some 31), none, .faddr 82 (tm 30) 0 0⟩,
 ⟨(some 32), none, .load 3 (tm 31) none⟩,
 ⟨(some 33), none, .faddr 84 (tm 1) 1 1⟩,
 ⟨(some 34), none, .faddr 82 (tm 33) 1 1⟩,
 ⟨(some 35), none, .load 3 (tm 34) none⟩,
 ⟨(some 36), none, .bin .gtr 3 (tm 32) (tm 35)⟩])
 (.ite (tm 36)
 (.seq
 (.ops [⟨(some 2), none, .mov (kc 2)⟩])
 .ret)
 .skip))
 (.seq
 (.ops [⟨(some 2), none, .mov (kc 0)⟩])
 .ret)))))))
theorem fn63 : FnOK Try.prog 63 37 [.tmp 2] L63 := ⟨Try.f63, Try.func63, by kernel_rfl, Try.ntmps63, by rw [Try.results63], by kernel_rfl⟩
def L68 : LCode :=
 (.seq
 (.ops [⟨(some 1), none, .box 64 (tm 0)⟩,
 ⟨(some 2), none, .mov (.const (.slice none 0 0))⟩])
 (.seq
 (.ops [⟨(some 3), none, .mov (.const (.slice none 0 0))⟩])
 (.seq
 (.seq
 (.ops [⟨(some 4), none, .mov (kc 0)⟩])
 (.block 0
 (.loop
 (.seq
 (.seq
 (.ops [⟨(some 5), none, .mov (tm 4)⟩,
 ⟨(some 6), none, .faddr 64 (tm 1) 1 1⟩,
 ⟨(some 7), none, .load 62 (tm 6) none⟩,
 ⟨(some 8), none, .len false 62 3 (tm 7)⟩,
 ⟨(some 9), none, .bin .lss 3 (tm 5) (tm 8)⟩])
 (.ite (tm 9)
 .skip
 (.exit 0)))
 (.seq
 (.block 1
 (.seq
 (.ops [⟨(some 12), none, .faddr 64 (tm 1) 1 1⟩,
 ⟨(some 13), none, .load 62 (tm 12) none⟩,
 ⟨(some 14), none, .mov (tm 4)⟩,
 ⟨(some 15), none, .iaddr 62 (tm 13) (tm 14) 3⟩,
 ⟨(some 16), none, .load 84 (tm 15) (some 3)⟩,
 ⟨(some 17), none, .call 55 [(tm 16)] 4⟩])
 (.ite (tm 17)
 (.ops [⟨(some 18), none, .mov (tm 3)⟩,
 ⟨(some 19), none, .faddr 64 (tm 1) 1 1⟩,
 ⟨(some 20), none, .load 62 (tm 19) none⟩,
 ⟨(some 21), none, .mov (tm 4)⟩,
 ⟨(some 22), none, .iaddr 62 (tm 20) (tm 21) 3⟩,
 ⟨(some 23), none, .faddr 84 (tm 22) 1 1⟩,
 ⟨(some 24), none, .load 82 (tm 23) (some 2)⟩,
 ⟨(some 25), none, .bslice 97 1 [(0, (tm 24))] 82 2 [(.int .i64 0), (.int .i64 0)]⟩,
 ⟨(some 26), none, .append 97 97 (tm 18) (tm 25) 82 2 16 [(.int .i64 0), (.int .i64 0)]⟩,
 ⟨(some 3), none, .mov (tm 26)⟩])
 .skip)))
 (.ops [⟨(some 10), none, .mov (tm 4)⟩,
 ⟨(some 11), none, .bin .add 3 (tm 10) (kc 1)⟩,
 ⟨(some 4), none, .mov (tm 11)⟩]))))))
 (.seq
 (.ops [⟨(some 27), none, .mov (tm 3)⟩,
 ⟨(some 2), none, .mov (tm 27)⟩])
 .ret))))
theorem fn68 : FnOK Try.prog 68 28 [.tmp 2] L68 := ⟨Try.f68, Try.func68, by kernel_rfl, Try.ntmps68, by rw [Try.results68], by kernel_rfl⟩
def L93 : LCode :=
 (.seq
 (.ops [⟨(some 4), none, .mov (kc 0)⟩])
 (.seq
 (.seq
 (.ops [⟨(some 5), none, .mov (tm 0)⟩,
 ⟨(some 6), none, .len false 58 3 (tm 5)⟩,
 ⟨(some 7), none, .bin .eql 3 (tm 6) (kc 0)⟩])
 (.ite (tm 7)
 (.seq
 (.ops [⟨(some 4), none, .mov (kc 0)⟩])
 .ret)
 .skip))
 (.seq
 (.ops [⟨(some 8), none, .mov (tm 0)⟩,
 ⟨(some 9), none, .mov (tm 1)⟩,
 ⟨(some 10), none, .mov (tm 0)⟩,
 ⟨(some 11), none, .len false 58 3 (tm 10)⟩,
 ⟨(some 12), none, .bin .rem 3 (tm 9) (tm 11)⟩,
 ⟨(some 13), none, .iaddr 58 (tm 8) (tm 12) 1⟩,
 ⟨(some 14), none, .load 5 (tm 13) none⟩,
 ⟨(some 15), none, .toInt .i64 5 3 (tm 14)⟩,
 ⟨(some 4), none, .mov (tm 15)⟩])
 .ret)))
theorem fn93 : FnOK Try.prog 93 16 [.tmp 4] L93 := ⟨Try.f93, Try.func93, by kernel_rfl, Try.ntmps93, by rw [Try.results93], by kernel_rfl⟩
def L94 : LCode :=
 (.seq
 (.ops [⟨(some 0), none, .mov (.const (.slice none 0 0))⟩])
 (.seq
 (.ops [⟨(some 1), none, .bslice 29 8 [(0, (.const (.string ⟨#[97]⟩))), (1, (.const (.string ⟨#[105]⟩))), (2, (.const (.string ⟨#[97, 115, 107]⟩))), (3, (.const (.string ⟨#[116, 111]⟩))), (4, (.const (.string ⟨#[116, 104, 101]⟩))), (5, (.const (.string ⟨#[98]⟩))), (6, (.const (.string ⟨#[106, 117, 100, 103, 101]⟩))), (7, (.const (.string ⟨#[109, 101, 114, 99, 121]⟩)))] 9 1 [(.string ⟨#[]⟩)]⟩,
 ⟨(some 0), none, .mov (tm 1)⟩])
 .ret))
theorem fn94 : FnOK Try.prog 94 2 [.tmp 0] L94 := ⟨Try.f94, Try.func94, by kernel_rfl, Try.ntmps94, by rw [Try.results94], by kernel_rfl⟩
def L95 : LCode :=
 (.seq
 (.ops [⟨(some 2), none, .mov (.const (.bool false))⟩])
 (.seq
 (.ops [⟨(some 3), none, .mov (.const (.bool true))⟩])
 (.seq
 (.seq
 (.ops [⟨(some 4), none, .mov (kc 0)⟩])
 (.block 0
 (.loop
 (.seq
 (.seq
 (.ops [⟨(some 5), none, .mov (tm 4)⟩,
 ⟨(some 6), none, .mov (tm 0)⟩,
 ⟨(some 7), none, .len false 29 3 (tm 6)⟩,
 ⟨(some 8), none, .bin .lss 3 (tm 5) (tm 7)⟩])
 (.ite (tm 8)
 .skip
 (.exit 0)))
 (.seq
 (.block 1
 (.ops [⟨(some 11), none, .mov (tm 3)⟩,
 ⟨(some 12), none, .mov (tm 11)⟩,
 ⟨(some 13), some (12, true), .mov (tm 0)⟩,
 ⟨(some 14), some (12, true), .mov (tm 4)⟩,
 ⟨(some 15), some (12, true), .iaddr 29 (tm 13) (tm 14) 1⟩,
 ⟨(some 16), some (12, true), .load 9 (tm 15) none⟩,
 ⟨(some 17), some (12, true), .call 123 [(tm 16)] 4⟩,
 ⟨(some 18), none, .pick (tm 12) (tm 17) (.const (.bool false))⟩,
 ⟨(some 3), none, .mov (tm 18)⟩]))
 (.ops [⟨(some 9), none, .mov (tm 4)⟩,
 ⟨(some 10), none, .bin .add 3 (tm 9) (kc 1)⟩,
 ⟨(some 4), none, .mov (tm 10)⟩]))))))
 (.seq
 (.ops [⟨(some 19), none, .mov (tm 3)⟩,
 ⟨(some 2), none, .mov (tm 19)⟩])
 .ret))))
theorem fn95 : FnOK Try.prog 95 20 [.tmp 2] L95 := ⟨Try.f95, Try.func95, by kernel_rfl, Try.ntmps95, by rw [Try.results95], by kernel_rfl⟩
def L100 : LCode :=
 (.seq
 (.ops [⟨(some 4), none, .mov (kc 0)⟩])
 (.seq
 (.ops [⟨(some 5), none, .mov (kc 0)⟩])
 (.seq
 (.block 0
 (.loop
 (.seq
 (.seq
 (.ops [⟨(some 6), none, .mov (tm 5)⟩,
 ⟨(some 7), none, .mov (tm 0)⟩,
 ⟨(some 8), none, .len false 29 3 (tm 7)⟩,
 ⟨(some 9), none, .bin .lss 3 (tm 6) (tm 8)⟩,
 ⟨(some 10), none, .mov (tm 9)⟩,
 ⟨(some 11), some (10, true), .mov (tm 0)⟩,
 ⟨(some 12), some (10, true), .mov (tm 5)⟩,
 ⟨(some 13), some (10, true), .iaddr 29 (tm 11) (tm 12) 1⟩,
 ⟨(some 14), some (10, true), .load 9 (tm 13) none⟩,
 ⟨(some 15), some (10, true), .mov (tm 1)⟩,
 ⟨(some 16), some (10, true), .bin .neq 9 (tm 14) (tm 15)⟩,
 ⟨(some 17), none, .pick (tm 10) (tm 16) (.const (.bool false))⟩])
 (.ite (tm 17)
 .skip
 (.exit 0)))
 (.block 1
 (.ops [⟨(some 18), none, .mov (tm 5)⟩,
 ⟨(some 19), none, .bin .add 3 (tm 18) (kc 1)⟩,
 ⟨(some 5), none, .mov (tm 19)⟩])))))
 (.seq
 (.seq
 (.ops [⟨(some 20), none, .mov (tm 5)⟩,
 ⟨(some 21), none, .mov (tm 0)⟩,
 ⟨(some 22), none, .len false 29 3 (tm 21)⟩,
 ⟨(some 23), none, .bin .eql 3 (tm 20) (tm 22)⟩])
 (.ite (tm 23)
 (.seq
 (.ops [⟨(some 4), none, .mov (kc (-1))⟩])
 .ret)
 .skip))
 (.seq
 (.ops [⟨(some 24), none, .mov (tm 5)⟩,
 ⟨(some 4), none, .mov (tm 24)⟩])
 .ret)))))
theorem fn100 : FnOK Try.prog 100 25 [.tmp 4] L100 := ⟨Try.f100, Try.func100, by kernel_rfl, Try.ntmps100, by rw [Try.results100], by kernel_rfl⟩
def L101 : LCode :=
 (.seq
 (.ops [⟨(some 2), none, .mov (.const (.bool false))⟩])
 (.seq
 (.ops [⟨(some 6), none, .mov (tm 0)⟩,
 ⟨(some 7), none, .len true 9 3 (tm 6)⟩,
 ⟨(some 8), none, .call 53 [(tm 7), (kc 1), (kc 16)] 4⟩,
 ⟨(some 3), none, .mov (tm 8)⟩])
 (.seq
 (.seq
 (.ops [⟨(some 4), none, .mov (kc 0)⟩])
 (.block 0
 (.loop
 (.seq
 (.seq
 (.ops [⟨(some 9), none, .mov (tm 4)⟩,
 ⟨(some 10), none, .mov (tm 0)⟩,
 ⟨(some 11), none, .len true 9 3 (tm 10)⟩,
 ⟨(some 12), none, .bin .lss 3 (tm 9) (tm 11)⟩])
 (.ite (tm 12)
 .skip
 (.exit 0)))
 (.seq
 (.block 1
 (.seq
 (.ops [⟨(some 15), none, .mov (tm 4)⟩,
 ⟨(some 16), none, .bin .gtr 3 (tm 15) (kc 0)⟩,
 ⟨(some 17), none, .mov (tm 16)⟩,
 ⟨(some 18), some (17, true), .mov (tm 0)⟩,
 ⟨(some 19), some (17, true), .mov (tm 4)⟩,
 ⟨(some 20), some (17, true), .indexS 9 (tm 18) (tm 19)⟩,
 ⟨(some 21), some (17, true), .bin .eql 5 (tm 20) (.const (.int .u8 46))⟩,
 ⟨(some 22), some (17, true), .mov (tm 21)⟩,
 ⟨(some 23), some (22, false), .mov (tm 0)⟩,
 ⟨(some 24), some (22, false), .mov (tm 4)⟩,
 ⟨(some 25), some (22, false), .indexS 9 (tm 23) (tm 24)⟩,
 ⟨(some 26), some (22, false), .toInt .i64 5 3 (tm 25)⟩,
 ⟨(some 27), some (22, false), .call 53 [(tm 26), (kc 48), (kc 57)] 4⟩,
 ⟨(some 28), some (17, true), .pick (tm 22) (.const (.bool true)) (tm 27)⟩,
 ⟨(some 29), none, .pick (tm 17) (tm 28) (.const (.bool false))⟩,
 ⟨(some 5), none, .mov (tm 29)⟩])
 (.ops [⟨(some 30), none, .mov (tm 3)⟩,
 ⟨(some 31), none, .mov (tm 30)⟩,
 ⟨(some 32), some (31, true), .mov (tm 0)⟩,
 ⟨(some 33), some (31, true), .mov (tm 4)⟩,
 ⟨(some 34), some (31, true), .indexS 9 (tm 32) (tm 33)⟩,
 ⟨(some 35), some (31, true), .toInt .i64 5 3 (tm 34)⟩,
 ⟨(some 36), some (31, true), .call 53 [(tm 35), (kc 97), (kc 122)] 4⟩,
 ⟨(some 37), some (31, true), .mov (tm 36)⟩,
 ⟨(some 38), some (37, false), .mov (tm 5)⟩,
 ⟨(some 39), some (31, true), .pick (tm 37) (.const (.bool true)) (tm 38)⟩,
 ⟨(some 40), none, .pick (tm 31) (tm 39) (.const (.bool false))⟩,
 ⟨(some 3), none, .mov (tm 40)⟩])))
 (.ops [⟨(some 13), none, .mov (tm 4)⟩,
 ⟨(some 14), none, .bin .add 3 (tm 13) (kc 1)⟩,
 ⟨(some 4), none, .mov (tm 14)⟩]))))))
 (.seq
 (.ops [⟨(some 41), none, .mov (tm 3)⟩,
 ⟨(some 2), none, .mov (tm 41)⟩])
 .ret))))
theorem fn101 : FnOK Try.prog 101 42 [.tmp 2] L101 := ⟨Try.f101, Try.func101, by kernel_rfl, Try.ntmps101, by rw [Try.results101], by kernel_rfl⟩
def L123 : LCode :=
 (.seq
 (.ops [⟨(some 2), none, .mov (.const (.bool false))⟩])
 (.seq
 (.seq
 (.ops [⟨(some 4), none, .mov (tm 0)⟩,
 ⟨(some 5), none, .len true 9 3 (tm 4)⟩,
 ⟨(some 6), none, .call 53 [(tm 5), (kc 1), (kc 8)] 4⟩,
 ⟨(some 7), none, .un .not (tm 6)⟩])
 (.ite (tm 7)
 (.seq
 (.ops [⟨(some 2), none, .mov (.const (.bool false))⟩])
 .ret)
 .skip))
 (.seq
 (.seq
 (.ops [⟨(some 3), none, .mov (kc 0)⟩])
 (.block 0
 (.loop
 (.seq
 (.seq
 (.ops [⟨(some 8), none, .mov (tm 3)⟩,
 ⟨(some 9), none, .mov (tm 0)⟩,
 ⟨(some 10), none, .len true 9 3 (tm 9)⟩,
 ⟨(some 11), none, .bin .lss 3 (tm 8) (tm 10)⟩])
 (.ite (tm 11)
 .skip
 (.exit 0)))
 (.seq
 (.block 1
 (.seq
 (.ops [⟨(some 14), none, .mov (tm 0)⟩,
 ⟨(some 15), none, .mov (tm 3)⟩,
 ⟨(some 16), none, .indexS 9 (tm 14) (tm 15)⟩,
 ⟨(some 17), none, .bin .lss 5 (tm 16) (.const (.int .u8 97))⟩,
 ⟨(some 18), none, .mov (tm 17)⟩,
 ⟨(some 19), some (18, false), .mov (tm 0)⟩,
 ⟨(some 20), some (18, false), .mov (tm 3)⟩,
 ⟨(some 21), some (18, false), .indexS 9 (tm 19) (tm 20)⟩,
 ⟨(some 22), some (18, false), .bin .gtr 5 (tm 21) (.const (.int .u8 122))⟩,
 ⟨(some 23), none, .pick (tm 18) (.const (.bool true)) (tm 22)⟩])
 (.ite (tm 23)
 (.seq
 (.ops [⟨(some 2), none, .mov (.const (.bool false))⟩])
 .ret)
 .skip)))
 (.ops [⟨(some 12), none, .mov (tm 3)⟩,
 ⟨(some 13), none, .bin .add 3 (tm 12) (kc 1)⟩,
 ⟨(some 3), none, .mov (tm 13)⟩]))))))
 (.seq
 (.ops [⟨(some 2), none, .mov (.const (.bool true))⟩])
 .ret))))
theorem fn123 : FnOK Try.prog 123 24 [.tmp 2] L123 := ⟨Try.f123, Try.func123, by kernel_rfl, Try.ntmps123, by rw [Try.results123], by kernel_rfl⟩
end Go.Px

namespace Go.Px
open Go.Proofs
theorem in_ev (n lo hi : Int) : Ev Try.prog 53 [I n, I lo, I hi] (B (decide (lo ≤ n) && decide (n ≤ hi))) := by
  refine Ev.intro fn53 ?_
  refine LWp.sx (gs := []) (hs := []) rfl trivial ?_
  by_cases h : lo ≤ n
  · refine LWp.sx (gs := [(10, true)]) (hs := []) rfl (by simp [h]) ?_
    refine LWp.ret (retT (.inr rfl) (.one (.tmp ?_ rfl)))
    show B _ = B _
    simp [h]
  · refine LWp.sx (gs := [(10, false)]) (hs := []) rfl (by simp [h]) ?_
    refine LWp.ret (retT (.inr rfl) (.one (.tmp ?_ rfl)))
    show B _ = B _
    simp [h]
theorem has_ev (l : List Int) (n : Int) : Ev Try.prog 46 [ints l, I n] (B (l.any (· == n))) := by
  refine Ev.intro fn46 ?_
  refine LWp.slLen 0 rfl fun ha => ?_
  simp only [List.length_map] at ha
  refine LWp.sx (gs := []) (hs := []) rfl trivial ?_
  refine LWp.sx (gs := []) (hs := []) rfl trivial ?_
  refine LWp.seq ?_
  refine LWp.sx (gs := []) (hs := []) rfl trivial ?_
  refine LWp.blockT (fun _ : Unit => True) (fun _ => el [(5, B (l.any (· == n)))]) (fun _ => []) (fun _ => []) ?_ ?_
  · refine LWp.loopN (fun k : Nat => k ≤ l.length) (fun k => el [(0, ints l), (1, I n), (5, B ((l.take k).any (· == n))), (6, I k)]) (fun _ => []) (fun _ => []) (fun k => l.length - k) 0 (by omega)
      (Ent.el ⟨rfl, rfl, rfl, rfl, trivial⟩) ?_
    intro k hk
    refine LWp.seq (LWp.seq ?_)
    refine LWp.x (gs := []) (hs := []) rfl trivial ?_
    refine LWp.ite rfl (fun hc => ?_) (fun hc => ?_)
    · simp only [List.length_map, decide_eq_true_eq, Int.ofNat_lt] at hc
      have hx : l[k]? = some l[k] := by simp
      refine LWp.skip (LWp.seq (LWp.block ?_))
      have ht : (l.take (k + 1)).any (· == n) = ((l.take k).any (· == n) || l[k] == n) := by
        rw [List.take_succ_eq_append_getElem hc, List.any_append]; simp
      cases hm : (l.take k).any (· == n) with
      | true =>
        rw [hm] at ht
        refine LWp.x (gs := [(14, true)]) (hs := []) rfl (by simp) ?_
        refine LWp.x (gs := []) (hs := []) rfl ⟨by omega, trivial⟩ ?_
        exact ⟨k + 1, hc, by omega, Ent.el ⟨rfl, rfl, by rw [ht]; rfl, rfl, trivial⟩⟩
      | false =>
        rw [hm] at ht
        refine LWp.x (gs := [(14, false)]) (hs := [.cells [I l[k]]]) rfl (by simp [hc]) ?_
        refine LWp.x (gs := []) (hs := []) rfl ⟨by omega, trivial⟩ ?_
        exact ⟨k + 1, hc, by omega, Ent.el ⟨rfl, rfl, by rw [ht]; rfl, rfl, trivial⟩⟩
    · simp only [List.length_map, decide_eq_false_iff_not, Int.ofNat_lt] at hc
      refine LWp.exit ⟨(), trivial, Ent.el ⟨?_, trivial⟩⟩
      show B _ = B _
      rw [List.take_of_length_le (by omega)]
  · intro _ _
    refine LWp.sx (gs := []) (hs := []) rfl trivial ?_
    refine LWp.ret (retT (.inr rfl) (.one (.tmp ?_ rfl)))
    rfl
end Go.Px

namespace Go.Px
open Go.Proofs
theorem inB_not (n lo hi : Int) : (!(decide (lo ≤ n) && decide (n ≤ hi))) = beyondB lo hi [n] := by
  rw [Bool.eq_iff_iff]; simp [beyondB]
theorem rname_ev (l : List UInt8) (hl : l.length ≤ 9223372036854775807) : Ev Try.prog 101 [Str l] (B (nameB l)) := by
  refine Ev.intro fn101 ?_
  refine LWp.sx (gs := []) (hs := []) rfl trivial ?_
  refine LWp.sx (gs := []) (hs := [.ret (B (decide (1 ≤ (l.length : Int)) && decide ((l.length : Int) ≤ 16)))]) rfl ⟨in_ev _ 1 16, trivial⟩ ?_
  refine LWp.seq (LWp.seq ?_)
  refine LWp.x (gs := []) (hs := []) rfl trivial ?_
  generalize hF : (decide (1 ≤ (l.length : Int)) && decide ((l.length : Int) ≤ 16)) = F
  have hnb : nameB l = (allN l 0 && F) := by
    unfold nameB
    rw [← hF]
    congr 1
    rw [Bool.eq_iff_iff]; simp; omega
  refine LWp.blockT (fun _ : Unit => True) (fun _ => el [(3, B (nameB l))]) (fun _ => []) (fun _ => []) ?_ ?_
  · refine LWp.loopN (X := Nat × Bool) (fun x => x.1 ≤ l.length ∧ nameB l = (allN (l.drop x.1) x.1 && x.2)) (fun x => el [(0, Str l), (3, B x.2), (4, I x.1)]) (fun _ => []) (fun _ => []) (fun x => l.length - x.1) (0, F) ⟨by simp, hnb⟩
      (Ent.el ⟨rfl, rfl, rfl, trivial⟩) ?_
    rintro ⟨k, f⟩ ⟨hk, hi⟩
    simp only at hk hi ⊢
    refine LWp.seq (LWp.seq ?_)
    refine LWp.x (gs := []) (hs := []) rfl trivial ?_
    refine LWp.ite rfl (fun hc => ?_) (fun hc => ?_)
    · simp only [decide_eq_true_eq] at hc
      have hc' : k < l.length := by have : ((k : Int) < (l.length : Int)) := hc; omega
      obtain ⟨c, hx⟩ := ex_get hc'
      rw [drop_cons hx, allN] at hi
      have hby : (⟨l.toArray⟩ : ByteArray).data.toList[((k : Nat) : Int).toNat]? = some c := by simpa using hx
      have hco : ∀ m : Int, IntKind.i64.wrap ((c.toNat : Nat) : Int) = c.toNat := by
        intro _
        exact i64_wrap (by omega) (by have := c.toNat_lt; omega)
      refine LWp.skip ?_
      refine LWp.blockX (fun _ : Unit => True) (fun _ => el [(0, Str l), (3, B (f && okc k c.toNat)), (4, I k)]) (fun _ => []) (fun _ => []) ?_ ?_
      · refine LWp.cutX (fun _ : Unit => True) (fun _ => el [(0, Str l), (3, B f), (4, I k), (5, B (decide (0 < k) && (c.toNat == 46 || (decide (48 ≤ c.toNat) && decide (c.toNat ≤ 57)))))]) (fun _ => []) (fun _ => []) ?_ ?_
        · by_cases h0 : 0 < k
          · by_cases h1 : c.toNat = 46
            · refine LWp.x (gs := [(17, true), (22, true)]) (hs := [.byte c]) rfl (by simp [h0, h1, hx]) ?_
              exact ⟨(), trivial, Ent.el ⟨rfl, rfl, rfl, by show B _ = B _; simp [h0, h1], trivial⟩⟩
            · have h1' : ¬ ((c.toNat : Int) = 46) := by omega
              refine LWp.x (gs := [(17, true), (22, false)]) (hs := [.byte c, .byte c, .ret (B (decide ((48 : Int) ≤ c.toNat) && decide ((c.toNat : Int) ≤ 57)))]) rfl (by simp [h0, h1', hx]; exact ⟨hco 0, in_ev _ 48 57⟩) ?_
              refine ⟨(), trivial, Ent.el ⟨rfl, rfl, rfl, ?_, trivial⟩⟩
              show B _ = B _
              have e : (decide ((48 : Int) ≤ c.toNat) && decide ((c.toNat : Int) ≤ 57)) = (decide (48 ≤ c.toNat) && decide (c.toNat ≤ 57)) := by rw [Bool.eq_iff_iff]; simp; omega
              rw [e]; simp [h0, h1]
          · have h0' : k = 0 := by omega
            subst h0'
            refine LWp.x (gs := [(17, false)]) (hs := []) rfl (by simp) ?_
            exact ⟨(), trivial, Ent.el ⟨rfl, rfl, rfl, by show B _ = B _; simp, trivial⟩⟩
        intro _ _
        generalize hg : (decide (0 < k) && (c.toNat == 46 || (decide (48 ≤ c.toNat) && decide (c.toNat ≤ 57)))) = g
        have hok : okc k c.toNat = ((decide (97 ≤ c.toNat) && decide (c.toNat ≤ 122)) || g) := by rw [← hg]; rfl
        cases f with
        | false =>
          refine LWp.x (gs := [(31, false)]) (hs := []) rfl (by simp) ?_
          exact ⟨(), trivial, Ent.el ⟨rfl, by show B _ = B _; simp, rfl, trivial⟩⟩
        | true =>
          have e : (decide ((97 : Int) ≤ c.toNat) && decide ((c.toNat : Int) ≤ 122)) = (decide (97 ≤ c.toNat) && decide (c.toNat ≤ 122)) := by rw [Bool.eq_iff_iff]; simp; omega
          rw [← e] at hok
          generalize hq : (decide ((97 : Int) ≤ c.toNat) && decide ((c.toNat : Int) ≤ 122)) = q at hok
          have hin : Ev Try.prog 53 [I c.toNat, I 97, I 122] (B q) := by rw [← hq]; exact in_ev _ 97 122
          cases q with
          | true =>
            refine LWp.x (gs := [(31, true), (37, true)]) (hs := [.byte c, .ret (B true)]) rfl (by simp [hx]; exact ⟨hco 0, hin⟩) ?_
            exact ⟨(), trivial, Ent.el ⟨rfl, by show B _ = B _; simp [hok], rfl, trivial⟩⟩
          | false =>
            refine LWp.x (gs := [(31, true), (37, false)]) (hs := [.byte c, .ret (B false)]) rfl (by simp [hx]; exact ⟨hco 0, hin⟩) ?_
            exact ⟨(), trivial, Ent.el ⟨rfl, by show B _ = B _; simp [hok], rfl, trivial⟩⟩
      intro _ _
      refine LWp.x (gs := []) (hs := []) rfl ⟨by omega, trivial⟩ ?_
      refine ⟨(k + 1, f && okc k c.toNat), ⟨hc', ?_⟩, by simp only; omega, Ent.el ⟨rfl, rfl, rfl, trivial⟩⟩
      rw [hi]
      cases f <;> cases okc k c.toNat <;> simp
    · simp only [decide_eq_false_iff_not] at hc
      have hc' : ¬ k < l.length := by have : ¬ ((k : Int) < (l.length : Int)) := hc; omega
      have hf : nameB l = f := by rw [hi, drop_nil hc']; simp [allN]
      exact LWp.exit ⟨(), trivial, Ent.el ⟨by rw [hf]; rfl, trivial⟩⟩
  · intro _ _
    refine LWp.sx (gs := []) (hs := []) rfl trivial ?_
    refine LWp.ret (retT (.inr rfl) (.one (.tmp ?_ rfl)))
    rfl
theorem where_ev (l : List (List UInt8)) (s : List UInt8) : Ev Try.prog 100 [strs l, Str s] (I (idxF (fun x => x == s) l 0)) := by
  refine Ev.intro fn100 ?_
  refine LWp.slLen 0 rfl fun ha => ?_
  simp only [List.length_map] at ha
  refine LWp.sx (gs := []) (hs := []) rfl trivial ?_
  refine LWp.sx (gs := []) (hs := []) rfl trivial ?_
  refine LWp.blockX (fun k : Nat => k ≤ l.length ∧ idxF (fun x => x == s) l 0 = if k = l.length then -1 else (k : Int)) (fun k => el [(0, strs l), (5, I k)]) (fun _ => []) (fun _ => []) ?_ ?_
  · refine LWp.loopN (fun k : Nat => k ≤ l.length ∧ idxF (fun x => x == s) l 0 = idxF (fun x => x == s) (l.drop k) k) (fun k => el [(0, strs l), (1, Str s), (5, I k)]) (fun _ => []) (fun _ => []) (fun k => l.length - k) 0 ⟨by omega, rfl⟩
      (Ent.el ⟨rfl, rfl, rfl, trivial⟩) ?_
    rintro k ⟨hk, hi⟩
    refine LWp.seq (LWp.seq ?_)
    by_cases hc : k < l.length
    · obtain ⟨x, hx⟩ := ex_get hc
      rw [drop_cons hx, idxF] at hi
      refine LWp.x (gs := [(10, true)]) (hs := [.cells [Str x]]) rfl (by simp [hc, (List.getElem?_eq_some_iff.1 hx).2]) ?_
      refine LWp.ite rfl (fun hb => ?_) (fun hb => ?_)
      · have hne : ¬ ((x == s) = true) := by
          have hb : (!((⟨x.toArray⟩ : ByteArray).toList == (⟨s.toArray⟩ : ByteArray).toList)) = true := hb
          intro h
          rw [eq_of_beq h] at hb
          simp at hb
        rw [if_neg hne] at hi
        refine LWp.skip (LWp.block ?_)
        refine LWp.x (gs := []) (hs := []) rfl ⟨by omega, trivial⟩ ?_
        exact ⟨k + 1, ⟨hc, hi⟩, by omega, Ent.el ⟨rfl, rfl, rfl, trivial⟩⟩
      · have heq : (x == s) = true := by
          have hb : (!((⟨x.toArray⟩ : ByteArray).toList == (⟨s.toArray⟩ : ByteArray).toList)) = false := hb
          simp at hb
          simpa using hb
        rw [if_pos heq] at hi
        exact LWp.exit ⟨k, ⟨hk, by rw [hi, if_neg (by omega)]⟩, Ent.el ⟨rfl, rfl, trivial⟩⟩
    · rw [drop_nil hc] at hi
      refine LWp.x (gs := [(10, false)]) (hs := []) rfl (by simp [hc]) ?_
      refine LWp.ite (b := false) rfl (fun hb => by cases hb) (fun hb => ?_)
      exact LWp.exit ⟨k, ⟨hk, by rw [hi, if_pos (by omega)]; rfl⟩, Ent.el ⟨rfl, rfl, trivial⟩⟩
  · rintro k ⟨hk, hi⟩
    refine LWp.seq (LWp.seq ?_)
    refine LWp.x (gs := []) (hs := []) rfl trivial ?_
    refine LWp.ite rfl (fun hb => ?_) (fun hb => ?_)
    · simp only [List.length_map, beq_iff_eq, Int.natCast_inj] at hb
      refine LWp.sx (gs := []) (hs := []) rfl trivial ?_
      refine LWp.ret (retT (.inr rfl) (.one (.tmp ?_ rfl)))
      rw [hi, if_pos hb]; rfl
    · simp only [List.length_map, beq_eq_false_iff_ne, ne_eq, Int.natCast_inj] at hb
      refine LWp.skip ?_
      refine LWp.sx (gs := []) (hs := []) rfl trivial ?_
      refine LWp.ret (retT (.inr rfl) (.one (.tmp ?_ rfl)))
      rw [hi, if_neg hb]; rfl
def freshE (s : List UInt8) (l : List (List UInt8)) : Int := if nameB s = true then (if l.any (fun x => x == s) = true then 5 else 0) else 6
theorem fresh_ev (s : List UInt8) (hl : s.length ≤ 9223372036854775807) (l : List (List UInt8)) : Ev Try.prog 62 [Str s, strs l] (I (freshE s l)) := by
  refine Ev.intro fn62 ?_
  refine LWp.sx (gs := []) (hs := []) rfl trivial ?_
  refine LWp.sx (gs := []) (hs := []) rfl trivial ?_
  refine LWp.cutX (fun _ : Unit => True) (fun _ => el [(0, Str s), (5, I (if l.any (fun x => x == s) = true then 5 else 0))]) (fun _ => []) (fun _ => []) ?_ ?_
  · refine LWp.sx (gs := []) (hs := [.ret (I (idxF (fun x => x == s) l 0))]) rfl ⟨where_ev l s, trivial⟩ ?_
    have hg := idxF_ge (fun x => x == s) l 0 (by omega)
    refine LWp.ite rfl (fun hb => ?_) (fun hb => ?_)
    · rw [hg] at hb
      refine LWp.x (gs := []) (hs := []) rfl trivial ?_
      exact ⟨(), trivial, Ent.el ⟨rfl, by rw [hb]; rfl, trivial⟩⟩
    · rw [hg] at hb
      exact LWp.skip ⟨(), trivial, Ent.el ⟨rfl, by rw [hb]; rfl, trivial⟩⟩
  intro _ _
  refine LWp.cutX (fun _ : Unit => True) (fun _ => el [(5, I (freshE s l))]) (fun _ => []) (fun _ => []) ?_ ?_
  · refine LWp.sx (gs := []) (hs := [.ret (B (nameB s))]) rfl ⟨rname_ev s hl, trivial⟩ ?_
    refine LWp.ite rfl (fun hb => ?_) (fun hb => ?_)
    · simp only [Bool.not_eq_true'] at hb
      refine LWp.x (gs := []) (hs := []) rfl trivial ?_
      exact ⟨(), trivial, Ent.el ⟨by simp only [freshE, hb, Bool.false_eq_true, if_false]; rfl, trivial⟩⟩
    · simp only [Bool.not_eq_false'] at hb
      exact LWp.skip ⟨(), trivial, Ent.el ⟨by simp only [freshE, hb, if_true]; rfl, trivial⟩⟩
  intro _ _
  refine LWp.sx (gs := []) (hs := []) rfl trivial ?_
  refine LWp.ret (retT (.inr rfl) (.one (.tmp ?_ rfl)))
  rfl
end Go.Px

namespace Go.Px
theorem scr_all_put : ∀ ss : List Wd, Scr [] ss ss.length
  | [] => .nil
  | _ :: ss => .put (scr_all_put ss)
theorem scr_far : ∀ (ws ss : List Wd), Scr ws ss (far ws ss)
  | [], ss => scr_all_put ss
  | w :: ws, ss => by
    induction ss with
    | nil => exact .drop (scr_far ws [])
    | cons s ss ih =>
      have h1 := scr_far ws ss
      have h2 := scr_far ws (s :: ss)
      rw [far_cons]
      by_cases hf : fitB s w = true
      · rw [if_pos hf]
        rcases Nat.le_total (far ws ss) (min (1 + far ws (s :: ss)) (1 + far (w :: ws) ss)) with h | h
        · rw [Nat.min_eq_left h]; exact .keep hf h1
        · rw [Nat.min_eq_right h]
          rcases Nat.le_total (1 + far ws (s :: ss)) (1 + far (w :: ws) ss) with g | g
          · rw [Nat.min_eq_left g, Nat.add_comm]; exact .drop h2
          · rw [Nat.min_eq_right g, Nat.add_comm]; exact .put ih
      · rw [if_neg hf]
        rcases Nat.le_total (1 + far ws ss) (min (1 + far ws (s :: ss)) (1 + far (w :: ws) ss)) with h | h
        · rw [Nat.min_eq_left h, Nat.add_comm]; exact .turn h1
        · rw [Nat.min_eq_right h]
          rcases Nat.le_total (1 + far ws (s :: ss)) (1 + far (w :: ws) ss) with g | g
          · rw [Nat.min_eq_left g, Nat.add_comm]; exact .drop h2
          · rw [Nat.min_eq_right g, Nat.add_comm]; exact .put ih
theorem far_put (ws : List Wd) (s : Wd) (ss : List Wd) : far ws (s :: ss) ≤ far ws ss + 1 := by
  cases ws with
  | nil => simp [far]
  | cons w ws => rw [far_cons]; split <;> omega
theorem far_turn (w : Wd) (ws : List Wd) (s : Wd) (ss : List Wd) : far (w :: ws) (s :: ss) ≤ far ws ss + 1 := by
  rw [far_cons]; split <;> omega
theorem far_keep {w : Wd} {ws : List Wd} {s : Wd} {ss : List Wd} (h : fitB s w = true) : far (w :: ws) (s :: ss) ≤ far ws ss := by
  rw [far_cons, if_pos h]; omega
theorem far_least {ws ss : List Wd} {n : Nat} (h : Scr ws ss n) : far ws ss ≤ n := by
  induction h with
  | nil => exact Nat.le_refl _
  | keep hf _ ih => exact Nat.le_trans (far_keep hf) ih
  | turn _ ih => exact Nat.le_trans (far_turn ..) (Nat.succ_le_succ ih)
  | drop _ ih => exact Nat.le_trans (far_drop ..) (Nat.succ_le_succ ih)
  | put _ ih => exact Nat.le_trans (far_put ..) (Nat.succ_le_succ ih)
theorem fit_eq {s w : Wd} (h : s ≠ []) : fitB s w = true ↔ s = w := by
  simp [fitB, h]
theorem fit_refl (w : Wd) : fitB w w = true := by simp [fitB]
/-- By way of a third letter there are no fewer corrections. -/
theorem scr_trans {a c b : List Wd} {m n : Nat} (hc : NE c) (h : Scr a c m) (g : Scr c b n) : ∃ k, k ≤ m + n ∧ Scr a b k := by
  induction h generalizing b n with
  | nil => exact ⟨n, by omega, g⟩
  | @keep w s ws ss m hf h ih =>
    have hs : s = w := (fit_eq (hc s (by simp))).1 hf
    subst hs
    generalize hcc : s :: ss = cc at g
    induction g with
    | nil => cases hcc
    | keep hf2 g _ =>
      simp only [List.cons.injEq] at hcc
      obtain ⟨rfl, rfl⟩ := hcc
      obtain ⟨k, h1, h2⟩ := ih hc.tail g
      exact ⟨k, h1, .keep hf2 h2⟩
    | turn g _ =>
      simp only [List.cons.injEq] at hcc
      obtain ⟨rfl, rfl⟩ := hcc
      obtain ⟨k, h1, h2⟩ := ih hc.tail g
      exact ⟨k + 1, by omega, .turn h2⟩
    | drop g _ =>
      simp only [List.cons.injEq] at hcc
      obtain ⟨rfl, rfl⟩ := hcc
      obtain ⟨k, h1, h2⟩ := ih hc.tail g
      exact ⟨k + 1, by omega, .drop h2⟩
    | put _ ih2 =>
      obtain ⟨k, h1, h2⟩ := ih2 hcc
      exact ⟨k + 1, by omega, .put h2⟩
  | @turn w s ws ss m h ih =>
    generalize hcc : s :: ss = cc at g
    induction g with
    | nil => cases hcc
    | keep _ g _ =>
      simp only [List.cons.injEq] at hcc
      obtain ⟨rfl, rfl⟩ := hcc
      obtain ⟨k, h1, h2⟩ := ih hc.tail g
      exact ⟨k + 1, by omega, .turn h2⟩
    | turn g _ =>
      simp only [List.cons.injEq] at hcc
      obtain ⟨rfl, rfl⟩ := hcc
      obtain ⟨k, h1, h2⟩ := ih hc.tail g
      exact ⟨k + 1, by omega, .turn h2⟩
    | drop g _ =>
      simp only [List.cons.injEq] at hcc
      obtain ⟨rfl, rfl⟩ := hcc
      obtain ⟨k, h1, h2⟩ := ih hc.tail g
      exact ⟨k + 1, by omega, .drop h2⟩
    | put _ ih2 =>
      obtain ⟨k, h1, h2⟩ := ih2 hcc
      exact ⟨k + 1, by omega, .put h2⟩
  | drop h ih =>
    obtain ⟨k, h1, h2⟩ := ih hc g
    exact ⟨k + 1, by omega, .drop h2⟩
  | @put s ws ss m h ih =>
    generalize hcc : s :: ss = cc at g
    induction g with
    | nil => cases hcc
    | keep _ g _ =>
      simp only [List.cons.injEq] at hcc
      obtain ⟨rfl, rfl⟩ := hcc
      obtain ⟨k, h1, h2⟩ := ih hc.tail g
      exact ⟨k + 1, by omega, .put h2⟩
    | turn g _ =>
      simp only [List.cons.injEq] at hcc
      obtain ⟨rfl, rfl⟩ := hcc
      obtain ⟨k, h1, h2⟩ := ih hc.tail g
      exact ⟨k + 1, by omega, .put h2⟩
    | drop g _ =>
      simp only [List.cons.injEq] at hcc
      obtain ⟨rfl, rfl⟩ := hcc
      obtain ⟨k, h1, h2⟩ := ih hc.tail g
      exact ⟨k, by omega, h2⟩
    | put _ ih2 =>
      obtain ⟨k, h1, h2⟩ := ih2 hcc
      exact ⟨k + 1, by omega, .put h2⟩
theorem far_trans {a c b : List Wd} (hc : NE c) : far a b ≤ far a c + far c b := by
  obtain ⟨k, h1, h2⟩ := scr_trans hc (scr_far a c) (scr_far c b)
  exact Nat.le_trans (far_least h2) h1
theorem scr_zero {ws ss : List Wd} : Scr ws ss 0 ↔ fitL ss ws = true := by
  constructor
  · intro h
    generalize hn : 0 = n at h
    induction h with
    | nil => rfl
    | keep hf _ ih => simp [fitL, hf, ih hn]
    | turn _ _ => cases hn
    | drop _ _ => cases hn
    | put _ _ => cases hn
  · intro h
    induction ss generalizing ws with
    | nil =>
      cases ws with
      | nil => exact .nil
      | cons w ws => simp [fitL] at h
    | cons s ss ih =>
      cases ws with
      | nil => simp [fitL] at h
      | cons w ws =>
        simp only [fitL, Bool.and_eq_true] at h
        exact .keep h.1 (ih h.2)
theorem far_zero {ws ss : List Wd} : far ws ss = 0 ↔ fitL ss ws = true := by
  rw [← scr_zero]
  constructor
  · intro h; rw [← h]; exact scr_far ws ss
  · intro h; have := far_least h; omega
/-- A letter of a shape is no nearer than the shape. -/
theorem scr_shape {a b ss : List Wd} {n : Nat} (hb : NE b) (h : Scr a b n) (hf : fitL ss b = true) : Scr a ss n := by
  induction h generalizing ss with
  | nil =>
    cases ss with
    | nil => exact .nil
    | cons _ _ => simp [fitL] at hf
  | @keep w s ws bs n hf2 h ih =>
    cases ss with
    | nil => simp [fitL] at hf
    | cons x ss =>
      simp only [fitL, Bool.and_eq_true] at hf
      have hs : s = w := (fit_eq (hb s (by simp))).1 hf2
      subst hs
      exact .keep hf.1 (ih hb.tail hf.2)
  | turn h ih =>
    cases ss with
    | nil => simp [fitL] at hf
    | cons x ss =>
      simp only [fitL, Bool.and_eq_true] at hf
      exact .turn (ih hb.tail hf.2)
  | drop h ih => exact .drop (ih hb hf)
  | put h ih =>
    cases ss with
    | nil => simp [fitL] at hf
    | cons x ss =>
      simp only [fitL, Bool.and_eq_true] at hf
      exact .put (ih hb.tail hf.2)
theorem far_shape {a b ss : List Wd} (hb : NE b) (hf : fitL ss b = true) : far a ss ≤ far a b := far_least (scr_shape hb (scr_far a b) hf)
end Go.Px

namespace Go.Px
theorem words_ne {l : List Wd} (h : wordsB l = true) : NE l := fun w hw => word_ne (List.all_eq_true.1 h w hw)
theorem letter_ne {l : List Wd} (h : letterE l = 0) : NE l := words_ne (letter_zero.1 h).2
end Go.Px

namespace Go.Px
theorem minN_le : ∀ {l : List Nat} {a : Nat}, a ∈ l → minN l ≤ a
  | [b], a, h => by simp at h; subst h; exact Nat.le_refl _
  | b :: c :: l, a, h => by
    simp only [minN]
    rcases List.mem_cons.1 h with rfl | h
    · exact Nat.min_le_left ..
    · exact Nat.le_trans (Nat.min_le_right ..) (minN_le h)
theorem minN_mem : ∀ {l : List Nat}, l ≠ [] → minN l ∈ l
  | [b], _ => by simp [minN]
  | b :: c :: l, _ => by
    simp only [minN]
    have ih := minN_mem (l := c :: l) (by simp)
    rcases Nat.le_total b (minN (c :: l)) with h | h
    · rw [Nat.min_eq_left h]; simp
    · rw [Nat.min_eq_right h]; exact List.mem_cons_of_mem _ ih
  | [], h => absurd rfl h
/-- A shape is of the words of what is put in. -/
theorem fit_blanks : ∀ (l : List Wd), fitL (blanks l.length) l = true
  | [] => rfl
  | w :: l => by simp only [blanks, List.length_cons, List.replicate_succ, fitL]; simp [fitB]; exact fit_blanks l
theorem fitL_append : ∀ {a b x y : List Wd}, a.length = x.length → fitL (a ++ b) (x ++ y) = (fitL a x && fitL b y)
  | [], b, [], y, _ => by simp [fitL]
  | s :: a, b, w :: x, y, h => by
    simp only [List.cons_append, fitL]
    rw [fitL_append (by simpa using h), Bool.and_assoc]
  | [], _, _ :: _, _, h => by simp at h
  | _ :: _, _, [], _, h => by simp at h
theorem fitL_self : ∀ l : List Wd, fitL l l = true
  | [] => rfl
  | w :: l => by simp [fitL, fit_refl, fitL_self l]
theorem built_fits : ∀ (ps : List Part) (fs : List (List Wd)), fs.length = (roomsL ps).length → fitL (shapeF ps (fs.map List.length)) (builtF ps fs) = true
  | [], _, _ => rfl
  | p :: ps, fs, h => by
    rw [roomsL_cons] at h
    simp only [shapeF, builtF]
    by_cases hp : p.roomy = true
    · rw [if_pos hp] at h ⊢
      rw [if_pos hp]
      cases fs with
      | nil => simp at h
      | cons f fs =>
        simp only [List.map_cons, List.headD_cons, List.tail_cons]
        rw [fitL_append (by simp [blanks]), fit_blanks, Bool.true_and]
        exact built_fits ps fs (by simpa using h)
    · rw [if_neg hp] at h ⊢
      rw [if_neg hp, fitL_append rfl, fitL_self, Bool.true_and]
      exact built_fits ps fs h
end Go.Px

namespace Go.Px
theorem rooms_nn {ps : List Part} (h : ∀ p ∈ ps, PartV p) : RNN (roomsL ps) := fun r hr => (rooms_ok h r hr).1
/-- A letter is of a form just if it needs no corrections. -/
theorem mends_zero {ps : List Part} (h : ∀ p ∈ ps, PartV p) (l : List Wd) : mendsF ps l = 0 ↔ waysF ps l ≠ [] := by
  have hne : (cnts (roomsL ps)).map (fun m => far l (shapeF ps m)) ≠ [] := by
    intro e
    exact form_cnts_ne h (List.map_eq_nil_iff.1 e)
  unfold mendsF waysF
  constructor
  · intro h0
    have hm := minN_mem hne
    rw [h0] at hm
    obtain ⟨m, hm1, hm2⟩ := List.mem_map.1 hm
    exact List.ne_nil_of_mem (List.mem_filter.2 ⟨hm1, far_zero.1 hm2⟩)
  · intro hw
    obtain ⟨m, hm⟩ := List.exists_mem_of_ne_nil _ hw
    obtain ⟨h1, h2⟩ := List.mem_filter.1 hm
    have := minN_le (l := (cnts (roomsL ps)).map fun m => far l (shapeF ps m)) (a := far l (shapeF ps m)) (List.mem_map.2 ⟨m, h1, rfl⟩)
    rw [far_zero.2 h2] at this
    omega
theorem mends_le {ps : List Part} {l : List Wd} {m : List Nat} (hm : m ∈ cnts (roomsL ps)) : mendsF ps l ≤ far l (shapeF ps m) := minN_le (List.mem_map.2 ⟨m, hm, rfl⟩)
theorem mends_is {ps : List Part} (h : ∀ p ∈ ps, PartV p) (l : List Wd) : ∃ m ∈ cnts (roomsL ps), mendsF ps l = far l (shapeF ps m) := by
  have hne : (cnts (roomsL ps)).map (fun m => far l (shapeF ps m)) ≠ [] := by
    intro e
    exact form_cnts_ne h (List.map_eq_nil_iff.1 e)
  obtain ⟨m, h1, h2⟩ := List.mem_map.1 (minN_mem hne)
  exact ⟨m, h1, h2.symm⟩
/-- A letter of the form is no nearer. -/
theorem mends_built {ps : List Part} (h : ∀ p ∈ ps, PartV p) {l : List Wd} {fs : List (List Wd)} (hf : InR (roomsL ps) (fs.map List.length)) (hn : NE (builtF ps fs)) : mendsF ps l ≤ far l (builtF ps fs) := by
  have hm := (cnts_iff (rooms_nn h)).2 hf
  have hlen : fs.length = (roomsL ps).length := by
    have := cnts_len hm
    simpa using this
  exact Nat.le_trans (mends_le hm) (far_shape hn (built_fits ps fs hlen))
/-- One correction changes what a letter needs by at most one. -/
theorem mends_one {ps : List Part} (h : ∀ p ∈ ps, PartV p) {l k : List Wd} (hl : NE l) (hk : far k l ≤ 1) : mendsF ps k ≤ mendsF ps l + 1 := by
  obtain ⟨m, h1, h2⟩ := mends_is h l
  have := far_trans (a := k) (c := l) (b := shapeF ps m) hl
  have := mends_le (l := k) h1
  omega
theorem far_turned {a b : List Wd} {w v : Wd} : far (a ++ w :: b) (a ++ v :: b) ≤ 1 := by
  refine far_least ?_
  induction a with
  | nil =>
    have : Scr b b 0 := scr_zero.2 (fitL_self b)
    exact .turn this
  | cons x a ih => exact .keep (fit_refl x) ih
theorem far_dropped {a b : List Wd} {w : Wd} : far (a ++ w :: b) (a ++ b) ≤ 1 := by
  refine far_least ?_
  induction a with
  | nil =>
    have : Scr b b 0 := scr_zero.2 (fitL_self b)
    exact .drop this
  | cons x a ih => exact .keep (fit_refl x) ih
theorem far_put_in {a b : List Wd} {w : Wd} : far (a ++ b) (a ++ w :: b) ≤ 1 := by
  refine far_least ?_
  induction a with
  | nil =>
    have : Scr b b 0 := scr_zero.2 (fitL_self b)
    exact .put this
  | cons x a ih => exact .keep (fit_refl x) ih
end Go.Px

namespace Go.Px
open Go.Proofs
theorem built_words : ∀ (ps : List Part) (fs : List (List Wd)), (∀ p ∈ ps, wordsB p.words = true) → (∀ f ∈ fs, wordsB f = true) → wordsB (builtF ps fs) = true
  | [], _, _, _ => rfl
  | p :: ps, fs, hp, hf => by
    simp only [builtF]
    split
    · unfold wordsB
      rw [List.all_append, Bool.and_eq_true]
      refine ⟨?_, built_words ps fs.tail (fun q hq => hp q (by simp [hq])) (fun f h => hf f (List.mem_of_mem_tail h))⟩
      cases fs with
      | nil => rfl
      | cons f fs => exact hf f (by simp)
    · unfold wordsB
      rw [List.all_append, Bool.and_eq_true]
      exact ⟨hp p (by simp), built_words ps fs (fun q hq => hp q (by simp [hq])) hf⟩
section
variable {s : Shelf} (V : ShelfV s) {n : Nat} {f : Form} (hf : s.forms[n]? = some f)
include V hf
theorem formI_zero : formI s n = 0 := by
  have hlt := (List.getElem?_eq_some_iff.1 hf).1
  unfold formI
  rw [if_pos (shelf_iff.2 V), if_neg (by simp [beyondB]; omega)]
theorem partsOf_eq : partsOf s n = f.parts := by
  have _h := V
  unfold partsOf
  rw [Int.toNat_natCast, hf]
theorem form_v : FormV f := (V.forms f (List.mem_of_getElem? hf)).2
theorem make_ok {fs : List (List Wd)} (hin : InR (roomsL f.parts) (fs.map List.length)) (hw : ∀ x ∈ fs, wordsB x = true) : makeR s n fs = (builtF f.parts fs, 0) ∧ letterE (builtF f.parts fs) = 0 := by
  have F := form_v V hf
  have e : makeE s n fs = 0 := by
    unfold makeE
    rw [if_pos (formI_zero V hf), partsOf_eq V hf]
    exact putE_zero.2 ⟨hin, hw⟩
  refine ⟨by unfold makeR; rw [if_pos e, partsOf_eq V hf], ?_⟩
  rw [letter_zero]
  refine ⟨?_, built_words _ _ (fun p hp => (F.parts p hp).ok) hw⟩
  have h3 : ∀ x ∈ fs, x.length ≤ 3 := by
    intro x hx
    obtain ⟨i, hi⟩ := List.mem_iff_getElem?.1 hx
    have hl := inR_len hin
    rw [List.length_map] at hl
    obtain ⟨r, hr⟩ := ex_get (show i < (roomsL f.parts).length by have := (List.getElem?_eq_some_iff.1 hi).1; omega)
    have := (inR_get hin hr (m := x.length) (by rw [List.getElem?_map, hi]; rfl)).2
    have := (rooms_ok F.parts r (List.mem_of_getElem? hr)).2.2.2
    omega
  have := built_len f.parts fs (fun p hp => (F.parts p hp).w3) h3
  have := F.p5
  omega
theorem ofL_has (l : List Wd) (i : Nat) {g : Form} (hg : s.forms[i]? = some g) : ((i : Int) ∈ ofL s.forms l) ↔ waysF g.parts l ≠ [] := by
  have _h := And.intro V hf
  unfold ofL
  simp only [List.mem_map, List.mem_filter, List.mem_range, decide_eq_true_eq]
  constructor
  · rintro ⟨j, ⟨h1, h2⟩, e⟩
    have : j = i := by omega
    subst this
    rw [hg] at h2
    exact h2
  · intro h
    exact ⟨i, ⟨(List.getElem?_eq_some_iff.1 hg).1, by rw [hg]; exact h⟩, rfl⟩
end
end Go.Px

namespace Go.Px
open Go.Proofs
def turnF (x : List UInt8) (n : Nat) : Int := match x[n % x.length]? with | some c => (c.toNat : Int) | none => 0
theorem turnF_nn (x : List UInt8) (n : Nat) : 0 ≤ turnF x n := by
  unfold turnF
  split <;> omega
theorem turnF_le (x : List UInt8) (n : Nat) : turnF x n ≤ 255 := by
  unfold turnF
  split
  · rename_i c _
    have := c.toNat_lt
    omega
  · omega
/-- The words of which letters are made. -/
def saidL : List Wd := [[97], [105], [97, 115, 107], [116, 111], [116, 104, 101], [98], [106, 117, 100, 103, 101], [109, 101, 114, 99, 121]]
def saidW (t : Int) : Wd := (saidL[(t % 8).toNat]?).getD []
theorem saidL_ok : saidL.all wordB = true := by decide +kernel
theorem saidW_get (t : Int) : saidL[(t % 8).toNat]? = some (saidW t) := by
  have h : (t % 8).toNat < saidL.length := by
    show _ < 8
    omega
  obtain ⟨w, hw⟩ := ex_get h
  unfold saidW
  rw [hw]; rfl
theorem saidW_ok (t : Int) : wordB (saidW t) = true := List.all_eq_true.1 saidL_ok _ (List.mem_of_getElem? (saidW_get t))
def anyRoom (x : List UInt8) (at_ many : Nat) : List Wd := (List.range many).map fun k => saidW (turnF x (at_ + k))
def anyMany (x : List UInt8) (r : Int × Int) (at_ : Nat) : Nat := (r.1 + turnF x at_ % (r.2 - r.1 + 1)).toNat
def anyF (x : List UInt8) : List (Int × Int) → Nat → List (List Wd)
  | [], _ => []
  | r :: rs, at_ => anyRoom x (at_ + 1) (anyMany x r at_) :: anyF x rs (at_ + 1 + anyMany x r at_)
theorem anyMany_in (x : List UInt8) {r : Int × Int} (at_ : Nat) (h0 : 0 ≤ r.1) (h1 : r.1 ≤ r.2) : r.1 ≤ anyMany x r at_ ∧ (anyMany x r at_ : Int) ≤ r.2 := by
  have h2 := Int.emod_nonneg (turnF x at_) (b := r.2 - r.1 + 1) (by omega)
  have h3 := Int.emod_lt_of_pos (turnF x at_) (b := r.2 - r.1 + 1) (by omega)
  unfold anyMany
  omega
theorem anyF_in (x : List UInt8) : ∀ (rs : List (Int × Int)) (at_ : Nat), (∀ r ∈ rs, 0 ≤ r.1 ∧ r.1 ≤ r.2) → InR rs ((anyF x rs at_).map List.length)
  | [], _, _ => trivial
  | r :: rs, at_, h => by
    obtain ⟨h0, h1⟩ := h r (by simp)
    refine ⟨?_, anyF_in x rs _ (fun q hq => h q (by simp [hq]))⟩
    have e : (anyRoom x (at_ + 1) (anyMany x r at_)).length = anyMany x r at_ := by simp [anyRoom]
    rw [e]
    exact anyMany_in x at_ h0 h1
theorem anyF_words (x : List UInt8) : ∀ (rs : List (Int × Int)) (at_ : Nat), ∀ f ∈ anyF x rs at_, wordsB f = true
  | [], _, f, h => by cases h
  | r :: rs, at_, f, h => by
    simp only [anyF, List.mem_cons] at h
    rcases h with rfl | h
    · refine List.all_eq_true.2 fun w hw => ?_
      obtain ⟨k, _, rfl⟩ := List.mem_map.1 hw
      exact saidW_ok _
    · exact anyF_words x rs _ f h
end Go.Px

namespace Go.Px
open Go.Proofs
theorem inB_of (n lo hi : Int) : (decide (lo ≤ n) && decide (n ≤ hi)) = !beyondB lo hi [n] := by
  rw [← inB_not]; simp
theorem rWord_ev (l : Wd) : Ev Try.prog 123 [Str l] (B (wordB l)) := by
  refine Ev.intro fn123 ?_
  refine LWp.sx (gs := []) (hs := []) rfl trivial ?_
  have hin := in_ev l.length 1 8
  rw [inB_of] at hin
  refine LWp.seq (LWp.seq ?_)
  refine LWp.x (gs := []) (hs := [.ret (B (!beyondB 1 8 [(l.length : Int)]))]) rfl ⟨hin, trivial⟩ ?_
  have hwe := wordB_eq l
  have hb8 : beyondB 1 8 [(l.length : Int)] = false → l.length ≤ 8 := fun h => by simp [beyondB] at h; omega
  generalize beyondB 1 8 [(l.length : Int)] = bb at hwe hb8
  refine LWp.ite rfl (fun h => ?_) (fun h => LWp.skip ?_)
  · have h : bb = true := by simpa using h
    refine LWp.sx (gs := []) (hs := []) rfl trivial ?_
    refine LWp.ret (retT (.inr rfl) (.one (.tmp ?_ rfl)))
    rw [hwe, h]; rfl
  · have h : bb = false := by simpa using h
    have hl8 := hb8 h
    rw [h, Bool.not_false, Bool.true_and] at hwe
    refine LWp.seq (LWp.seq ?_)
    refine LWp.x (gs := []) (hs := []) rfl trivial ?_
    refine LWp.blockT (fun _ : Unit => l.all (fun c => lowB c.toNat) = true) (fun _ => el []) (fun _ => []) (fun _ => []) ?_ ?_
    · refine LWp.loopN (fun k : Nat => k ≤ l.length ∧ l.all (fun c => lowB c.toNat) = (l.drop k).all (fun c => lowB c.toNat)) (fun k => el [(0, Str l), (3, I k)]) (fun _ => []) (fun _ => []) (fun k => l.length - k) 0 ⟨by omega, rfl⟩
        (Ent.el ⟨rfl, rfl, trivial⟩) ?_
      rintro k ⟨hk, hi⟩
      refine LWp.seq (LWp.seq ?_)
      refine LWp.x (gs := []) (hs := []) rfl trivial ?_
      refine LWp.ite rfl (fun hc => ?_) (fun hc => ?_)
      · have hc : k < l.length := by simpa [ByteArray.size] using hc
        obtain ⟨c, hcc⟩ := ex_get hc
        rw [drop_cons hcc, List.all_cons] at hi
        refine LWp.skip ?_
        refine LWp.blockX (fun _ : Unit => lowB c.toNat = true) (fun _ => el [(0, Str l), (3, I k)]) (fun _ => []) (fun _ => []) ?_ ?_
        · have hby : (⟨l.toArray⟩ : ByteArray).data.toList[((k : Nat) : Int).toNat]? = some c := by simpa using hcc
          refine LWp.seq ?_
          by_cases h1 : (c.toNat : Int) < 97
          · have g1 : decide ((c.toNat : Int) < 97) = true := decide_eq_true h1
            refine LWp.x (gs := [(18, true)]) (hs := [.byte c]) rfl (by (repeat' (with_reducible apply And.intro)); (all_goals try first | (with_reducible exact trivial) | (with_reducible rfl) | (with_reducible assumption) | ((with_reducible apply isB); first | exact rfl | exact beq_self_eq_true _)); exact (by omega)) ?_
            refine LWp.ite (b := true) rfl (fun _ => ?_) (fun h => by cases h)
            refine LWp.sx (gs := []) (hs := []) rfl trivial ?_
            refine LWp.ret (retT (.inr rfl) (.one (.tmp ?_ rfl)))
            have : lowB c.toNat = false := by simp [lowB]; omega
            rw [hwe, hi, this]; rfl
          · have g1 : decide ((c.toNat : Int) < 97) = false := decide_eq_false h1
            refine LWp.x (gs := [(18, false)]) (hs := [.byte c, .byte c]) rfl (by (repeat' (with_reducible apply And.intro)); (all_goals try first | (with_reducible exact trivial) | (with_reducible rfl) | (with_reducible assumption) | ((with_reducible apply isB); first | exact rfl | exact beq_self_eq_true _)); exact (by omega); exact (by omega)) ?_
            refine LWp.ite rfl (fun h2 => ?_) (fun h2 => LWp.skip ?_)
            · refine LWp.sx (gs := []) (hs := []) rfl trivial ?_
              refine LWp.ret (retT (.inr rfl) (.one (.tmp ?_ rfl)))
              have : lowB c.toNat = false := by simp at h2; simp [lowB]; omega
              rw [hwe, hi, this]; rfl
            · refine ⟨(), ?_, Ent.el ⟨rfl, rfl, trivial⟩⟩
              simp at h2; simp [lowB]; omega
        · intro _ hl
          refine LWp.x (gs := []) (hs := []) rfl ⟨by omega, trivial⟩ ?_
          exact ⟨k + 1, ⟨by omega, by rw [hi, hl, Bool.true_and]⟩, by omega, Ent.el ⟨rfl, rfl, trivial⟩⟩
      · have hc : ¬ k < l.length := by simpa [ByteArray.size] using hc
        refine LWp.exit ⟨(), ?_, Ent.el trivial⟩
        rw [hi, drop_nil hc]; rfl
    · intro _ hl
      refine LWp.sx (gs := []) (hs := []) rfl trivial ?_
      refine LWp.ret (retT (.inr rfl) (.one (.tmp ?_ rfl)))
      rw [hwe, hl]
      rfl
theorem rwords_ev (l : List Wd) : Ev Try.prog 95 [strs l] (B (wordsB l)) := by
  refine Ev.intro fn95 ?_
  refine LWp.slLen 0 rfl fun hll => ?_
  simp only [List.length_map] at hll
  refine LWp.sx (gs := []) (hs := []) rfl trivial ?_
  refine LWp.sx (gs := []) (hs := []) rfl trivial ?_
  refine LWp.seq (LWp.seq ?_)
  refine LWp.x (gs := []) (hs := []) rfl trivial ?_
  refine LWp.blockT (fun _ : Unit => True) (fun _ => el [(3, B (wordsB l))]) (fun _ => []) (fun _ => []) ?_ ?_
  · refine LWp.loopN (X := Nat × Bool) (fun x => x.1 ≤ l.length ∧ wordsB l = (x.2 && wordsB (l.drop x.1))) (fun x => el [(0, strs l), (3, B x.2), (4, I x.1)]) (fun _ => []) (fun _ => []) (fun x => l.length - x.1) (0, true) ⟨by simp, by simp⟩
      (Ent.el ⟨rfl, rfl, rfl, trivial⟩) ?_
    rintro ⟨k, f⟩ ⟨hk, hi⟩
    simp only at hk hi ⊢
    refine LWp.seq (LWp.seq ?_)
    refine LWp.x (gs := []) (hs := []) rfl trivial ?_
    refine LWp.ite rfl (fun hc => ?_) (fun hc => ?_)
    · simp only [List.length_map, decide_eq_true_eq, Int.ofNat_lt] at hc
      obtain ⟨s, hs⟩ := ex_get hc
      rw [drop_cons hs] at hi
      have hi : wordsB l = ((f && wordB s) && wordsB (l.drop (k + 1))) := by rw [hi, Bool.and_assoc]; rfl
      refine LWp.skip ?_
      refine LWp.blockX (fun _ : Unit => True) (fun _ => el [(0, strs l), (3, B (f && wordB s)), (4, I k)]) (fun _ => []) (fun _ => []) ?_ ?_
      · cases f with
        | false =>
          refine LWp.x (gs := [(12, false)]) (hs := []) rfl (by (repeat' (with_reducible apply And.intro)); (all_goals try first | (with_reducible exact trivial) | (with_reducible rfl) | (with_reducible assumption) | ((with_reducible apply isB); first | exact rfl | exact beq_self_eq_true _))) ?_
          exact ⟨(), trivial, Ent.el ⟨rfl, rfl, rfl, trivial⟩⟩
        | true =>
          refine LWp.x (gs := [(12, true)]) (hs := [.cells [Str s], .ret (B (wordB s))]) rfl (by (repeat' (with_reducible apply And.intro)); (all_goals try first | (with_reducible exact trivial) | (with_reducible rfl) | (with_reducible assumption) | ((with_reducible apply isB); first | exact rfl | exact beq_self_eq_true _)); exact (by omega); exact (by simp [hs]); exact rWord_ev s) ?_
          exact ⟨(), trivial, Ent.el ⟨rfl, rfl, rfl, trivial⟩⟩
      · intro _ _
        refine LWp.x (gs := []) (hs := []) rfl ⟨by omega, trivial⟩ ?_
        exact ⟨(k + 1, f && wordB s), ⟨by simp only; omega, hi⟩, by simp only; omega, Ent.el ⟨rfl, rfl, rfl, trivial⟩⟩
    · simp only [List.length_map, decide_eq_false_iff_not, Int.ofNat_lt] at hc
      refine LWp.exit ⟨(), trivial, Ent.el ⟨?_, trivial⟩⟩
      rw [hi, drop_nil hc]
      show B _ = B _
      simp [wordsB]
  · intro _ _
    refine LWp.sx (gs := []) (hs := []) rfl trivial ?_
    refine LWp.ret (retT (.inr rfl) (.one (.tmp ?_ rfl)))
    rfl
theorem rLetter_ev (l : List Wd) : Ev Try.prog 48 [strs l] (I (letterE l)) := by
  refine Ev.intro fn48 ?_
  refine LWp.sx (gs := []) (hs := []) rfl trivial ?_
  refine LWp.seq (LWp.seq ?_)
  refine LWp.x (gs := []) (hs := []) rfl trivial ?_
  refine LWp.ite rfl (fun h => ?_) (fun h => LWp.skip ?_)
  · have h : 15 < l.length := by simp at h; omega
    refine LWp.sx (gs := []) (hs := []) rfl trivial ?_
    refine LWp.ret (retT (.inr rfl) (.one (.tmp ?_ rfl)))
    show I _ = I _
    unfold letterE
    rw [if_pos h]
  · have h : ¬ 15 < l.length := by simp at h; omega
    refine LWp.seq (LWp.seq ?_)
    refine LWp.x (gs := []) (hs := [.ret (B (wordsB l))]) rfl ⟨rwords_ev l, trivial⟩ ?_
    refine LWp.ite rfl (fun hw => ?_) (fun hw => LWp.skip ?_)
    · have hw : wordsB l = false := by simpa using hw
      refine LWp.sx (gs := []) (hs := []) rfl trivial ?_
      refine LWp.ret (retT (.inr rfl) (.one (.tmp ?_ rfl)))
      show I _ = I _
      unfold letterE
      rw [if_neg h, if_neg (by simp [hw])]
    · have hw : wordsB l = true := by simpa using hw
      refine LWp.sx (gs := []) (hs := []) rfl trivial ?_
      refine LWp.ret (retT (.inr rfl) (.one (.tmp ?_ rfl)))
      show I _ = I _
      unfold letterE
      rw [if_neg h, if_pos hw]
theorem roomy_ev (p : Part) : Ev Try.prog 55 [.agg p.enc] (B p.roomy) := by
  refine Ev.intro fn55 ?_
  refine LWp.sx (gs := []) (hs := [.ice]) rfl ⟨⟨rfl, rfl⟩, trivial⟩ ?_
  refine LWp.sx (gs := []) (hs := []) rfl trivial ?_
  refine LWp.ret (retT (.inr rfl) (.one (.tmp ?_ rfl)))
  show B _ = B _
  congr 2
  unfold Part.roomy
  rw [Bool.eq_iff_iff]
  simp
end Go.Px

namespace Go.Px
open Go.Proofs
theorem rpart_ev (p : Part) (hw : p.wf) : Ev Try.prog 63 [.agg p.enc] (I (partE p)) := by
  have hlo := wf_i64 hw.lo0 hw.lo1
  have hhi := wf_i64 hw.hi0 hw.hi1
  have h00 := wf_i64 (n := 0) (by decide) (by decide)
  have hln : (p.words.map fun s => [Str s]).length = p.words.length := List.length_map _
  refine Ev.intro fn63 ?_
  unfold partE
  refine LWp.sx (gs := []) (hs := [.ice]) rfl ⟨⟨rfl, rfl⟩, trivial⟩ ?_
  refine LWp.seq (LWp.seq ?_)
  refine LWp.x (gs := []) (hs := []) rfl trivial ?_
  refine LWp.ite rfl (fun h => ?_) (fun h => LWp.skip ?_)
  · have h : 3 < p.words.length := by simp at h; omega
    rw [if_pos h]
    refine LWp.sx (gs := []) (hs := []) rfl trivial ?_
    refine LWp.ret (retT (.inr rfl) (.one (.tmp ?_ rfl)))
    rfl
  have h : ¬ 3 < p.words.length := by simp at h; omega
  rw [if_neg h]
  refine LWp.seq (LWp.seq ?_)
  refine LWp.x (gs := []) (hs := [.ret (B (wordsB p.words))]) rfl ⟨rwords_ev _, trivial⟩ ?_
  refine LWp.ite rfl (fun hws => ?_) (fun hws => LWp.skip ?_)
  · have hws : wordsB p.words = false := by simpa using hws
    rw [if_neg (by simp [hws])]
    refine LWp.sx (gs := []) (hs := []) rfl trivial ?_
    refine LWp.ret (retT (.inr rfl) (.one (.tmp ?_ rfl)))
    rfl
  have hws : wordsB p.words = true := by simpa using hws
  rw [if_pos hws]
  refine LWp.seq (LWp.seq ?_)
  refine LWp.x (gs := []) (hs := [.ret (B p.roomy)]) rfl ⟨roomy_ev p, trivial⟩ ?_
  refine LWp.ite rfl (fun hr => ?_) (fun hr => LWp.skip ?_)
  · have hr : p.words ≠ [] := by simpa [Part.roomy] using hr
    rw [if_pos hr]
    refine LWp.seq (LWp.seq ?_)
    refine LWp.x (gs := []) (hs := [.op (B (!decide (p.lo = 0 ∧ p.hi = 0)))]) rfl (by (repeat' (with_reducible apply And.intro)); (all_goals try first | (with_reducible exact trivial) | (with_reducible rfl) | (with_reducible assumption) | ((with_reducible apply isB); first | exact rfl | exact beq_self_eq_true _)); exact op_span (neg := true) hlo hhi h00 h00 rfl rfl) ?_
    refine LWp.ite rfl (fun h0 => ?_) (fun h0 => LWp.skip ?_)
    · have h0 : ¬ (p.lo = 0 ∧ p.hi = 0) := by intro e; simp [e.1, e.2] at h0
      rw [if_neg h0]
      refine LWp.sx (gs := []) (hs := []) rfl trivial ?_
      refine LWp.ret (retT (.inr rfl) (.one (.tmp ?_ rfl)))
      rfl
    · have h0 : p.lo = 0 ∧ p.hi = 0 := by simpa using h0
      rw [if_pos h0]
      refine LWp.sx (gs := []) (hs := []) rfl trivial ?_
      refine LWp.ret (retT (.inr rfl) (.one (.tmp ?_ rfl)))
      rfl
  have hr : ¬ p.words ≠ [] := by
    have : p.roomy = true := by simpa using hr
    simpa [Part.roomy] using this
  rw [if_neg hr]
  have e1 := in_ev p.lo 0 3
  have e2 := in_ev p.hi 1 3
  have hb : (beyondB 0 3 [p.lo, p.hi] || decide (p.hi = 0)) = (!(decide (0 ≤ p.lo) && decide (p.lo ≤ 3)) || !(decide (1 ≤ p.hi) && decide (p.hi ≤ 3))) := by
    rw [Bool.eq_iff_iff]; simp [beyondB]; omega
  rw [hb]
  generalize (decide (0 ≤ p.lo) && decide (p.lo ≤ 3)) = b1 at e1
  generalize (decide (1 ≤ p.hi) && decide (p.hi ≤ 3)) = b2 at e2
  refine LWp.seq (LWp.seq ?_)
  refine LWp.cutT (fun _ : Unit => True) (fun _ => el [(1, .pi p.enc), (29, B (!b1 || !b2))]) (fun _ => []) (fun _ => []) ?_ (fun _ _ => ?_)
  · cases b1 with
    | true =>
      refine LWp.x (gs := [(23, false)]) (hs := [.ret (B true), .ret (B b2)]) rfl (by (repeat' (with_reducible apply And.intro)); (all_goals try first | (with_reducible exact trivial) | (with_reducible rfl) | (with_reducible assumption) | ((with_reducible apply isB); first | exact rfl | exact beq_self_eq_true _)); exact e1; exact e2) ?_
      exact ⟨(), trivial, Ent.el ⟨rfl, rfl, trivial⟩⟩
    | false =>
      refine LWp.x (gs := [(23, true)]) (hs := [.ret (B false)]) rfl (by (repeat' (with_reducible apply And.intro)); (all_goals try first | (with_reducible exact trivial) | (with_reducible rfl) | (with_reducible assumption) | ((with_reducible apply isB); first | exact rfl | exact beq_self_eq_true _)); exact e1) ?_
      exact ⟨(), trivial, Ent.el ⟨rfl, rfl, trivial⟩⟩
  refine LWp.ite rfl (fun hq => ?_) (fun hq => LWp.skip ?_)
  · rw [if_pos hq]
    refine LWp.sx (gs := []) (hs := []) rfl trivial ?_
    refine LWp.ret (retT (.inr rfl) (.one (.tmp ?_ rfl)))
    rfl
  rw [if_neg (by simp [hq])]
  refine LWp.seq (LWp.seq ?_)
  refine LWp.x (gs := []) (hs := []) rfl trivial ?_
  refine LWp.ite rfl (fun h => ?_) (fun h => LWp.skip ?_)
  · have h : p.hi < p.lo := by simpa using h
    rw [if_pos h]
    refine LWp.sx (gs := []) (hs := []) rfl trivial ?_
    refine LWp.ret (retT (.inr rfl) (.one (.tmp ?_ rfl)))
    rfl
  · have h : ¬ p.hi < p.lo := by simpa using h
    rw [if_neg h]
    refine LWp.sx (gs := []) (hs := []) rfl trivial ?_
    refine LWp.ret (retT (.inr rfl) (.one (.tmp ?_ rfl)))
    rfl
end Go.Px

namespace Go.Px
open Go.Proofs
theorem rcheck_ev (s : Shelf) (hw : s.wf) : Ev Try.prog 17 [.agg s.enc] (.tup [I (checkS s).1, I (checkS s).2.1, I (checkS s).2.2]) := by
  refine Ev.intro fn17 ?_
  have hfl : (s.forms.map Form.enc).length = s.forms.length := List.length_map _
  have res : ∀ {env : Env} {H : Heap} {p q r : Int}, checkS s = (p, q, r) → env 2 = I p → env 3 = I q → env 4 = I r → retP Try.prog [.tmp 2, .tmp 3, .tmp 4] (.tup [I (checkS s).1, I (checkS s).2.1, I (checkS s).2.2]) .ret env H [] := by
    intro env H p q r h h2 h3 h4
    rw [h]
    exact retT (.inr rfl) (.many (by decide) ⟨.tmp h2 rfl, .tmp h3 rfl, .tmp h4 rfl, trivial⟩)
  refine LWp.sx (gs := []) (hs := [.ice]) rfl ⟨⟨rfl, rfl⟩, trivial⟩ ?_
  refine LWp.seq (LWp.seq ?_)
  refine LWp.x (gs := []) (hs := [.ret (B (decide (8 ≤ s.w) && decide (s.w ≤ 30)))]) rfl ⟨in_ev _ 8 30, trivial⟩ ?_
  refine LWp.ite rfl (fun hc => ?_) (fun hc => ?_)
  · rw [inB_not] at hc
    refine LWp.sx (gs := []) (hs := []) rfl trivial ?_
    exact LWp.ret (res (p := 1) (q := 0) (r := 7) (by simp only [checkS, hc, if_true]) rfl rfl rfl)
  rw [inB_not] at hc
  refine LWp.skip (LWp.seq (LWp.seq ?_))
  refine LWp.x (gs := []) (hs := []) rfl trivial ?_
  refine LWp.ite rfl (fun hd => ?_) (fun hd => ?_)
  · have hd : 4 < s.forms.length := by simp at hd; omega
    refine LWp.sx (gs := []) (hs := []) rfl trivial ?_
    exact LWp.ret (res (p := 2) (q := 0) (r := 3) (by simp only [checkS, hc, hd, if_true, if_false, Bool.false_eq_true]) rfl rfl rfl)
  have hd : ¬ 4 < s.forms.length := by simp at hd; omega
  refine LWp.skip ?_
  have hck : checkS s = if (failF (formE s.forms) s.forms.length 0).2 = 0 then (0, 0, 0) else (2, (failF (formE s.forms) s.forms.length 0).1, (failF (formE s.forms) s.forms.length 0).2) := by
    simp only [checkS, hc, hd, if_false, Bool.false_eq_true]
  refine LWp.sx (gs := []) (hs := []) rfl trivial ?_
  refine LWp.seq (LWp.seq ?_)
  refine LWp.x (gs := []) (hs := []) rfl trivial ?_
  refine LWp.blockT (fun _ : Unit => (failF (formE s.forms) s.forms.length 0).2 = 0) (fun _ => el []) (fun _ => []) (fun _ => []) ?_ ?_
  · refine LWp.loopN (fun k : Nat => k ≤ s.forms.length ∧ failF (formE s.forms) s.forms.length 0 = failF (formE s.forms) (s.forms.length - k) k) (fun k => el [(1, .pi s.enc), (5, .lin 9 1 (((s.forms.take k).map (·.name)).map fun s => [Str s])), (6, I k)]) (fun _ => []) (fun _ => []) (fun k => s.forms.length - k) 0 ⟨by omega, rfl⟩
      (Ent.trans (Ent.nilLin (t := 5) 9 1 rfl) (Ent.el ⟨rfl, rfl, rfl, trivial⟩)) ?_
    rintro k ⟨hk, hi⟩
    refine LWp.seq (LWp.seq ?_)
    refine LWp.x (gs := []) (hs := []) rfl trivial ?_
    refine LWp.ite rfl (fun he => ?_) (fun he => ?_)
    · simp only [List.length_map, decide_eq_true_eq, Int.ofNat_lt] at he
      obtain ⟨f, hf⟩ := ex_get he
      have hfw := hw.forms f (List.mem_of_getElem? hf)
      have hpl : (f.parts.map Part.enc).length = f.parts.length := List.length_map _
      rw [failF_step he] at hi
      have hfe : formE s.forms k = if freshE f.name ((s.forms.take k).map (·.name)) = 0 then (if 5 < f.parts.length then 3 else (failF (partsE f.parts) f.parts.length 0).2) else freshE f.name ((s.forms.take k).map (·.name)) := by
        simp only [formE, hf, freshE, List.any_map]
        by_cases g1 : nameB f.name = true
        · simp only [g1, if_true]
          have e : (s.forms.take k).any ((fun x => x == f.name) ∘ fun x => x.name) = (s.forms.take k).any (fun x => x.name == f.name) := rfl
          rw [e]
          by_cases g2 : (s.forms.take k).any (fun x => x.name == f.name) = true
          · simp [g2]
          · simp [g2]
        · simp [g1]
      refine LWp.skip ?_
      refine LWp.blockX (fun _ : Unit => formE s.forms k = 0) (fun _ => el [(1, .pi s.enc), (5, .lin 9 1 (((s.forms.take (k + 1)).map (·.name)).map fun s => [Str s])), (6, I k)]) (fun _ => []) (fun _ => []) ?_ ?_
      · generalize hnm : (s.forms.take k).map (·.name) = nm at hfe
        have hnl : nm.length ≤ 4 := by rw [← hnm]; simp; omega
        have hns : (s.forms.take (k + 1)).map (·.name) = nm ++ [f.name] := by
          rw [List.take_add_one, hf, List.map_append, hnm]; rfl
        rw [hns]
        refine LWp.sx (gs := []) (hs := [.cells f.enc, .lin]) rfl ⟨⟨by omega, by simp [hf]⟩, rfl, ⟨rfl, rfl, rfl, by decide⟩, trivial⟩ ?_
        refine LWp.ent (Ent.freezeLbox (t := 7) rfl) ?_
        refine LWp.peek 5 rfl (fun ad cap => ?_)
        refine LWp.sx (gs := []) (hs := [.retB [Str f.name, strs nm] (I (freshE f.name nm))]) rfl ⟨⟨fresh_ev f.name hfw.name nm, rfl, .refl _, .linV (u := 5) rfl rfl, trivial⟩, trivial⟩ ?_
        refine LWp.sx (gs := []) (hs := [.ice, .own 5]) rfl ⟨rfl, ⟨⟨rfl, rfl, rfl⟩, by simp [chunk]; omega, by simp [chunk]; omega⟩, trivial⟩ ?_
        generalize freshE f.name nm = e0 at hfe
        refine LWp.cutX (fun _ : Unit => True) (fun _ => el [(1, .pi s.enc), (5, .lin 9 1 ((nm ++ [f.name]).map fun s => [Str s])), (6, I k), (7, .pi f.enc), (8, I (if e0 = 0 then (if 5 < f.parts.length then 3 else 0) else e0))]) (fun _ => []) (fun _ => []) ?_ ?_
        · by_cases g : e0 = 0
          · subst g
            refine LWp.sx (gs := [(41, true)]) (hs := []) rfl (by simp) ?_
            refine LWp.ite rfl (fun h3 => ?_) (fun h3 => ?_)
            · have h3 : 5 < f.parts.length := by simp at h3; omega
              refine LWp.x (gs := []) (hs := []) rfl trivial ?_
              exact ⟨(), trivial, Ent.el ⟨rfl, by show AV.lin _ _ _ = _; rw [List.map_append]; rfl, rfl, rfl, by rw [if_pos rfl, if_pos h3]; rfl, trivial⟩⟩
            · have h3 : ¬ 5 < f.parts.length := by simp at h3; omega
              exact LWp.skip ⟨(), trivial, Ent.el ⟨rfl, by show AV.lin _ _ _ = _; rw [List.map_append]; rfl, rfl, rfl, by rw [if_pos rfl, if_neg h3]; rfl, trivial⟩⟩
          · have g1 : (e0 == 0) = false := by simpa using g
            refine LWp.sx (gs := [(41, false)]) (hs := []) rfl (by simp [g1]) ?_
            refine LWp.ite (b := false) rfl (fun h => by cases h) (fun _ => ?_)
            exact LWp.skip ⟨(), trivial, Ent.el ⟨rfl, by show AV.lin _ _ _ = _; rw [List.map_append]; rfl, rfl, rfl, by rw [if_neg g]; rfl, trivial⟩⟩
        intro _ _
        refine LWp.seq (LWp.seq ?_)
        refine LWp.x (gs := []) (hs := []) rfl trivial ?_
        refine LWp.blockT (fun _ : Unit => True) (fun _ => el [(1, .pi s.enc), (5, .lin 9 1 ((nm ++ [f.name]).map fun s => [Str s])), (6, I k), (7, .pi f.enc), (8, I (formE s.forms k))]) (fun _ => []) (fun _ => []) ?_ ?_
        · refine LWp.loopN (fun x : Nat × Int => x.1 ≤ f.parts.length ∧ (x.2 = 0 → f.parts.length ≤ 5) ∧ formE s.forms k = if x.2 = 0 then (failF (partsE f.parts) (f.parts.length - x.1) x.1).2 else x.2) (fun x => el [(1, .pi s.enc), (5, .lin 9 1 ((nm ++ [f.name]).map fun s => [Str s])), (6, I k), (7, .pi f.enc), (8, I x.2), (9, I x.1)]) (fun _ => []) (fun _ => []) (fun x => f.parts.length - x.1) (0, if e0 = 0 then (if 5 < f.parts.length then 3 else 0) else e0) ⟨by omega, ?_, ?_⟩
            (Ent.el ⟨rfl, rfl, rfl, rfl, rfl, rfl, trivial⟩) ?_
          · simp only
            by_cases g : e0 = 0
            · by_cases g3 : 5 < f.parts.length
              · simp [g, g3]
              · intro _; omega
            · simp [g]
          · show formE s.forms k = if (if e0 = 0 then (if 5 < f.parts.length then 3 else 0) else e0) = 0 then (failF (partsE f.parts) (f.parts.length - 0) 0).2 else (if e0 = 0 then (if 5 < f.parts.length then 3 else 0) else e0)
            rw [hfe]
            by_cases g : e0 = 0
            · by_cases g3 : 5 < f.parts.length
              · simp [g, g3]
              · simp [g, g3]
            · simp [g]
          rintro ⟨j, e⟩ ⟨hj, hf5, hji⟩
          simp only at hj hf5 hji
          by_cases hlt : j < f.parts.length
          · have g1 : decide ((j : Int) < ((f.parts.map Part.enc).length : Int)) = true := decide_eq_true (by rw [hpl]; omega)
            refine LWp.seq (LWp.seq ?_)
            refine LWp.x (gs := [(52, true)]) (hs := []) rfl (by (repeat' (with_reducible apply And.intro)); (all_goals try first | (with_reducible exact trivial) | (with_reducible rfl) | (with_reducible assumption) | ((with_reducible apply isB); first | exact rfl | exact beq_self_eq_true _))) ?_
            refine LWp.ite rfl (fun hz => ?_) (fun hz => ?_)
            · have hz : e = 0 := by simpa using hz
              subst hz
              rw [if_pos rfl] at hji
              have hf5 := hf5 rfl
              obtain ⟨p, hp⟩ := ex_get hlt
              have hpe : partsE f.parts j = partE p := by simp only [partsE, hp]
              have hpe2 := rpart_ev p (hfw.parts p (List.mem_of_getElem? hp))
              rw [failF_step hlt, hpe] at hji
              generalize partE p = e at hji hpe2
              refine LWp.skip (LWp.seq (LWp.block ?_))
              refine LWp.x (gs := []) (hs := [.cells p.enc, .ret (I e)]) rfl ⟨⟨by omega, by simp [hp]⟩, hpe2, trivial⟩ ?_
              refine LWp.x (gs := []) (hs := []) rfl ⟨by omega, trivial⟩ ?_
              refine ⟨(j + 1, e), ⟨by simp only; omega, fun _ => hf5, ?_⟩, by simp only; omega, Ent.el ⟨rfl, rfl, rfl, rfl, rfl, rfl, trivial⟩⟩
              simp only
              rw [hji]
              by_cases g : e = 0
              · rw [if_pos g, if_pos g]
              · rw [if_neg g, if_neg g]
            · have hz : ¬ e = 0 := by simpa using hz
              rw [if_neg hz] at hji
              exact LWp.exit ⟨(), trivial, Ent.el ⟨rfl, rfl, rfl, rfl, by rw [hji]; rfl, trivial⟩⟩
          · have g1 : decide ((j : Int) < ((f.parts.map Part.enc).length : Int)) = false := decide_eq_false (by rw [hpl]; omega)
            refine LWp.seq (LWp.seq ?_)
            refine LWp.x (gs := [(52, false)]) (hs := []) rfl (by (repeat' (with_reducible apply And.intro)); (all_goals try first | (with_reducible exact trivial) | (with_reducible rfl) | (with_reducible assumption) | ((with_reducible apply isB); first | exact rfl | exact beq_self_eq_true _))) ?_
            refine LWp.ite (b := false) rfl (fun h => by cases h) (fun _ => ?_)
            refine LWp.exit ⟨(), trivial, Ent.el ⟨rfl, rfl, rfl, rfl, ?_, trivial⟩⟩
            rw [hji]
            by_cases g : e = 0
            · rw [if_pos g, show f.parts.length - j = 0 by omega, g]; rfl
            · rw [if_neg g]; rfl
        intro _ _
        generalize formE s.forms k = e at hi
        refine LWp.seq ?_
        refine LWp.x (gs := []) (hs := []) rfl trivial ?_
        refine LWp.ite rfl (fun h4 => ?_) (fun h4 => ?_)
        · have h4 : e ≠ 0 := by simpa using h4
          rw [if_neg h4] at hi
          refine LWp.sx (gs := []) (hs := []) rfl trivial ?_
          exact LWp.ret (res (p := 2) (q := (k : Int)) (r := e) (by rw [hck, hi, if_neg h4]) rfl rfl rfl)
        · have h4 : e = 0 := by simpa using h4
          exact LWp.skip ⟨(), h4, Ent.el ⟨rfl, rfl, rfl, trivial⟩⟩
      · intro _ hz
        rw [if_pos hz] at hi
        refine LWp.x (gs := []) (hs := []) rfl ⟨by omega, trivial⟩ ?_
        exact ⟨k + 1, ⟨he, hi⟩, by omega, Ent.el ⟨rfl, rfl, rfl, trivial⟩⟩
    · simp only [List.length_map, decide_eq_false_iff_not, Int.ofNat_lt] at he
      refine LWp.exit ⟨(), ?_, Ent.el trivial⟩
      rw [hi, show s.forms.length - k = 0 by omega]; rfl
  · intro _ h0
    refine LWp.sx (gs := []) (hs := []) rfl trivial ?_
    exact LWp.ret (res (p := 0) (q := 0) (r := 0) (by rw [hck, if_pos h0]) rfl rfl rfl)
end Go.Px

namespace Go.Px
open Go.Proofs
theorem rrooms_ev (f : Form) (hp : f.parts.length ≤ 1000) : Ev Try.prog 68 [.agg f.enc] (roomsV (roomsL f.parts)) := by
  have hpl : (f.parts.map Part.enc).length = f.parts.length := List.length_map _
  refine Ev.intro fn68 ?_
  refine LWp.sx (gs := []) (hs := [.ice]) rfl ⟨⟨rfl, rfl⟩, trivial⟩ ?_
  refine LWp.sx (gs := []) (hs := []) rfl trivial ?_
  refine LWp.seq (LWp.seq ?_)
  refine LWp.x (gs := []) (hs := []) rfl trivial ?_
  refine LWp.blockT (fun _ : Unit => True) (fun _ => el [(3, .lin 82 2 ((roomsL f.parts).map fun r => [I r.1, I r.2]))]) (fun _ => []) (fun _ => []) ?_ ?_
  · refine LWp.loopN (fun k : Nat => k ≤ f.parts.length) (fun k => el [(1, .pi f.enc), (3, .lin 82 2 ((roomsL (f.parts.take k)).map fun r => [I r.1, I r.2])), (4, I k)]) (fun _ => []) (fun _ => []) (fun k => f.parts.length - k) 0 (by omega)
      (Ent.trans (Ent.nilLin (t := 3) 82 2 rfl) (Ent.el ⟨rfl, rfl, rfl, trivial⟩)) ?_
    intro k hk
    refine LWp.seq (LWp.seq ?_)
    refine LWp.x (gs := []) (hs := []) rfl trivial ?_
    refine LWp.ite rfl (fun he => ?_) (fun he => ?_)
    · simp only [List.length_map, decide_eq_true_eq, Int.ofNat_lt] at he
      obtain ⟨p, hx⟩ := ex_get he
      have hl := roomsL_len (f.parts.take k)
      simp only [List.length_take] at hl
      have htk : roomsL (f.parts.take (k + 1)) = if p.roomy = true then roomsL (f.parts.take k) ++ [(p.lo, p.hi)] else roomsL (f.parts.take k) := by
        rw [List.take_add_one, hx]; exact roomsL_snoc _ _
      refine LWp.skip ?_
      refine LWp.blockX (fun _ : Unit => True) (fun _ => el [(1, .pi f.enc), (3, .lin 82 2 ((roomsL (f.parts.take (k + 1))).map fun r => [I r.1, I r.2])), (4, I k)]) (fun _ => []) (fun _ => []) ?_ ?_
      · rw [htk]
        refine LWp.sx (gs := []) (hs := [.cells p.enc, .ret (B p.roomy)]) rfl ⟨⟨by omega, by simp [hx]⟩, roomy_ev p, trivial⟩ ?_
        refine LWp.ite rfl (fun hr => ?_) (fun hr => ?_)
        · rw [if_pos hr]
          refine LWp.x (gs := []) (hs := [.cells p.enc, .ice]) rfl ⟨⟨by omega, by simp [hx]⟩, rfl, ⟨by simp [chunk]; omega, by simp [chunk]; omega⟩, trivial⟩ ?_
          exact ⟨(), trivial, Ent.el ⟨rfl, by show AV.lin _ _ _ = _; rw [List.map_append]; rfl, rfl, trivial⟩⟩
        · rw [if_neg (by simp [hr])]
          exact LWp.skip ⟨(), trivial, Ent.el ⟨rfl, rfl, rfl, trivial⟩⟩
      intro _ _
      refine LWp.x (gs := []) (hs := []) rfl ⟨by omega, trivial⟩ ?_
      exact ⟨k + 1, by omega, by omega, Ent.el ⟨rfl, rfl, rfl, trivial⟩⟩
    · simp only [List.length_map, decide_eq_false_iff_not, Int.ofNat_lt] at he
      refine LWp.exit ⟨(), trivial, ?_⟩
      rw [List.take_of_length_le (by omega)]
      exact Ent.el ⟨rfl, trivial⟩
  intro _ _
  refine LWp.ent (Ent.freezeLin (t := 3) rfl) ?_
  refine LWp.sx (gs := []) (hs := []) rfl trivial ?_
  refine LWp.ret (retT (.inr rfl) (.one (.tmp ?_ rfl)))
  rfl
end Go.Px

namespace Go.Px
open Go.Proofs
theorem rbuilt_ev (f : Form) (fs : List (List Wd)) (hn : fs.length = (roomsL f.parts).length) (hp : f.parts.length ≤ 1000) (hb : (builtF f.parts fs).length ≤ 1000) :
    Ev Try.prog 52 [.agg f.enc, fillsV fs] (strs (builtF f.parts fs)) := by
  have hpl : (f.parts.map Part.enc).length = f.parts.length := List.length_map _
  refine Ev.intro fn52 ?_
  refine LWp.sx (gs := []) (hs := [.ice]) rfl ⟨⟨rfl, rfl⟩, trivial⟩ ?_
  refine LWp.sx (gs := []) (hs := []) rfl trivial ?_
  refine LWp.sx (gs := []) (hs := []) rfl trivial ?_
  refine LWp.seq (LWp.seq ?_)
  refine LWp.x (gs := []) (hs := []) rfl trivial ?_
  refine LWp.blockT (fun _ : Unit => True) (fun _ => el [(5, .lin 9 1 ((builtF f.parts fs).map fun s => [Str s]))]) (fun _ => []) (fun _ => []) ?_ ?_
  · refine LWp.loopN (fun x : Nat × Nat × List Wd => x.1 ≤ f.parts.length ∧ x.2.1 + (roomsL (f.parts.drop x.1)).length = fs.length ∧ builtF f.parts fs = x.2.2 ++ builtF (f.parts.drop x.1) (fs.drop x.2.1)) (fun x => el [(1, fillsV fs), (2, .pi f.enc), (5, .lin 9 1 (x.2.2.map fun s => [Str s])), (6, I x.2.1), (7, I x.1)]) (fun _ => []) (fun _ => []) (fun x => f.parts.length - x.1) (0, 0, []) ⟨by omega, by simp [hn], rfl⟩
      (Ent.trans (Ent.nilLin (t := 5) 9 1 rfl) (Ent.el ⟨rfl, rfl, rfl, rfl, rfl, trivial⟩)) ?_
    rintro ⟨k, r, acc⟩ ⟨hk, hr, hi⟩
    simp only at hk hr hi
    have hal : acc.length ≤ 1000 := by rw [hi, List.length_append] at hb; omega
    have hrl := roomsL_len f.parts
    refine LWp.ent (Ent.el (l := [(1, fillsV fs), (2, .pi f.enc), (5, .lin 9 1 (acc.map fun s => [Str s])), (6, I r), (7, I k)]) ⟨rfl, rfl, rfl, rfl, rfl, trivial⟩) ?_
    refine LWp.seq (LWp.seq ?_)
    refine LWp.x (gs := []) (hs := []) rfl trivial ?_
    refine LWp.ite rfl (fun he => ?_) (fun he => ?_)
    · simp only [List.length_map, decide_eq_true_eq, Int.ofNat_lt] at he
      obtain ⟨p, hx⟩ := ex_get he
      rw [drop_cons hx, roomsL_cons] at hr
      rw [drop_cons hx, builtF] at hi
      refine LWp.skip ?_
      refine LWp.blockX (fun x : Nat × List Wd => x.1 + (roomsL (f.parts.drop (k + 1))).length = fs.length ∧ builtF f.parts fs = x.2 ++ builtF (f.parts.drop (k + 1)) (fs.drop x.1)) (fun x => el [(1, fillsV fs), (2, .pi f.enc), (5, .lin 9 1 (x.2.map fun s => [Str s])), (6, I x.1), (7, I k)]) (fun _ => []) (fun _ => []) ?_ ?_
      · refine LWp.seq (LWp.seq ?_)
        have hro := roomy_ev p
        refine LWp.x (gs := []) (hs := [.cells p.enc, .ret (B p.roomy)]) rfl ⟨⟨by omega, by simp [hx]⟩, hro, trivial⟩ ?_
        refine LWp.ite rfl (fun hq => ?_) (fun hq => ?_)
        · have hq : ¬ p.roomy = true := by simpa using hq
          rw [if_neg hq] at hr hi
          have hwl : acc.length + p.words.length ≤ 1000 := by rw [hi, List.length_append, List.length_append] at hb; omega
          refine LWp.sx (gs := []) (hs := [.cells p.enc]) rfl ⟨⟨by omega, by simp [hx]⟩, ⟨by simp; omega, by simp; omega⟩, trivial⟩ ?_
          refine LWp.exit ⟨(r, acc ++ p.words), ⟨hr, by rw [hi, List.append_assoc]⟩, Ent.el ⟨rfl, rfl, by show AV.lin _ _ _ = _; rw [List.map_append], rfl, rfl, trivial⟩⟩
        · have hq : p.roomy = true := by simpa using hq
          rw [if_pos hq] at hr hi
          simp only [List.length_cons] at hr
          obtain ⟨g, hg⟩ := ex_get (l := fs) (k := r) (by omega)
          rw [drop_cons hg, List.headD_cons, List.tail_cons] at hi
          have hwl : acc.length + g.length ≤ 1000 := by rw [hi, List.length_append, List.length_append] at hb; omega
          refine LWp.skip ?_
          refine LWp.sx (gs := []) (hs := [.cells [strs g]]) rfl ⟨⟨by omega, by simp [hg]⟩, ⟨by simp; omega, by simp; omega⟩, trivial⟩ ?_
          refine LWp.x (gs := []) (hs := []) rfl ⟨by omega, trivial⟩ ?_
          exact ⟨(r + 1, acc ++ g), ⟨by simp only; omega, by rw [hi, List.append_assoc]⟩, Ent.el ⟨rfl, rfl, by show AV.lin _ _ _ = _; rw [List.map_append], rfl, rfl, trivial⟩⟩
      rintro ⟨r', acc'⟩ ⟨h1, h2⟩
      refine LWp.x (gs := []) (hs := []) rfl ⟨by omega, trivial⟩ ?_
      exact ⟨(k + 1, r', acc'), ⟨by simp only; omega, h1, h2⟩, by simp only; omega, Ent.el ⟨rfl, rfl, rfl, rfl, rfl, trivial⟩⟩
    · simp only [List.length_map, decide_eq_false_iff_not, Int.ofNat_lt] at he
      refine LWp.exit ⟨(), trivial, Ent.el ⟨?_, trivial⟩⟩
      have hn0 : f.parts.drop k = [] := List.drop_eq_nil_of_le (by omega)
      rw [hi, hn0, builtF, List.append_nil]; rfl
  intro _ _
  refine LWp.ent (Ent.freezeLin (t := 5) rfl) ?_
  refine LWp.sx (gs := []) (hs := []) rfl trivial ?_
  refine LWp.ret (retT (.inr rfl) (.one (.tmp ?_ rfl)))
  rfl
end Go.Px

namespace Go.Px
open Go.Proofs
abbrev bytes (x : List UInt8) : AV := .sl 1 (x.map fun c => [U c.toNat])
theorem ub : Try.prog.underlying 4 = some .bool := by kernel_rfl
theorem valid_ev (s : Shelf) (hw : s.wf) : Ev Try.prog 43 [.agg s.enc] (B ((checkS s).2.2 == 0)) := by
  have e := rcheck_ev s hw
  generalize (checkS s).1 = p at e
  generalize (checkS s).2.1 = q at e
  generalize (checkS s).2.2 = r at e
  refine Ev.intro fn43 ?_
  refine LWp.sx (gs := []) (hs := [.ice]) rfl ⟨⟨rfl, rfl⟩, trivial⟩ ?_
  refine LWp.sx (gs := []) (hs := [.ret (.tup [I p, I q, I r])]) rfl ⟨e, trivial⟩ ?_
  refine LWp.sx (gs := []) (hs := []) rfl trivial ?_
  refine LWp.ret (retT (.inr rfl) (.one (.tmp ?_ rfl)))
  rfl
theorem turn_ev (x : List UInt8) (n : Nat) : Ev Try.prog 93 [bytes x, I n] (I (turnF x n)) := by
  refine Ev.intro fn93 ?_
  refine LWp.sx (gs := []) (hs := []) rfl trivial ?_
  refine LWp.seq (LWp.seq ?_)
  refine LWp.x (gs := []) (hs := []) rfl trivial ?_
  refine LWp.ite rfl (fun h => ?_) (fun h => LWp.skip ?_)
  · simp only [beq_iff_eq, List.length_map] at h
    have e : x = [] := List.length_eq_zero_iff.1 (by omega)
    subst e
    refine LWp.sx (gs := []) (hs := []) rfl trivial ?_
    refine LWp.ret (retT (.inr rfl) (.one (.tmp ?_ rfl)))
    rfl
  · simp only [beq_eq_false_iff_ne, ne_eq, List.length_map] at h
    have hl : 0 < x.length := by omega
    obtain ⟨c, hc⟩ := ex_get (Nat.mod_lt n hl)
    have em : ((n : Int) % ((x.map fun c => [U c.toNat]).length : Int)).toNat = n % x.length := by simp; omega
    have e0 : (0 : Int) ≤ (n : Int) % ((x.map fun c => [U c.toNat]).length : Int) := Int.emod_nonneg _ (by rw [List.length_map]; omega)
    have hcl := c.toNat_lt
    refine LWp.sx (gs := []) (hs := [.cells [U c.toNat]]) rfl ⟨⟨by omega, by simp; omega⟩, ⟨e0, by rw [em]; simp [hc]⟩, i64_wrap (by omega) (by omega), trivial⟩ ?_
    refine LWp.ret (retT (.inr rfl) (.one (.tmp ?_ rfl)))
    show I _ = I _
    unfold turnF
    rw [hc]
def whichN (s : Shelf) (w : Int) : Nat := w.toNat % s.forms.length
theorem which_ev (s : Shelf) (w : Int) (h0 : 0 ≤ w) (h1 : w ≤ 255) (hne : s.forms ≠ []) (h4 : s.forms.length ≤ 4) : Ev Try.prog 44 [.agg s.enc, U w] (I (whichN s w : Nat)) := by
  have hfl : (s.forms.map Form.enc).length = s.forms.length := List.length_map _
  have hpos := List.length_pos_iff.2 hne
  refine Ev.intro fn44 ?_
  refine LWp.sx (gs := []) (hs := [.ice]) rfl ⟨⟨rfl, rfl⟩, trivial⟩ ?_
  refine LWp.sx (gs := []) (hs := []) rfl (by exact ⟨i64_wrap (by omega) (by omega), ⟨by omega, by rw [hfl]; omega⟩, trivial⟩) ?_
  refine LWp.ret (retT (.inr rfl) (.one (.tmp ?_ rfl)))
  show I (w % ((s.forms.map Form.enc).length : Int)) = I ((w.toNat % s.forms.length : Nat) : Int)
  rw [hfl, Int.natCast_emod, Int.toNat_of_nonneg h0]
theorem said_ev : Ev Try.prog 94 [] (strs saidL) := by
  refine Ev.intro fn94 ?_
  refine LWp.sx (gs := []) (hs := []) rfl trivial ?_
  refine LWp.sx (gs := []) (hs := [.ice]) rfl ⟨rfl, trivial⟩ ?_
  refine LWp.ret (retT (.inr rfl) (.one (.tmp ?_ rfl)))
  rfl
theorem fewestR_good {A C : List Wd} (hA : letterE A = 0) (hC : letterE C = 0) : fewestR A C = (marksF (A.length + C.length) A C, ((far A C : Nat) : Int), 0) := by
  unfold fewestR
  rw [if_pos (fewestE_zero.2 ⟨hA, hC⟩)]
end Go.Px

namespace Go.Px
open Go.Proofs
section
variable {s : Shelf} {l : List Wd}
def OkSL (s : Shelf) (l : List Wd) : Prop := (checkS s).2.2 = 0 ∧ s.forms ≠ [] ∧ letterE l = 0
theorem nearR_bad (h : ¬ OkSL s l) : ∃ r, r ≠ 0 ∧ nearestR s l = (0, 0, r) := by
  have hE : nearE s l ≠ 0 := by
    intro g
    unfold nearE thenE at g
    by_cases h0 : (checkS s).2.2 = 0
    · rw [if_pos h0] at g
      by_cases h1 : letterE l = 0
      · rw [if_pos h1] at g
        by_cases h2 : s.forms = []
        · rw [if_pos h2] at g; cases g
        · exact h ⟨h0, h2, h1⟩
      · rw [if_neg h1] at g; exact h1 g
    · rw [if_neg h0, if_neg h0] at g; exact h0 g
  exact ⟨nearE s l, hE, by unfold nearestR; rw [if_neg hE]⟩
theorem ofR_good (h : (checkS s).2.2 = 0) (hl : letterE l = 0) : ofR s l = (ofL s.forms l, 0) := by
  unfold ofR thenE
  rw [if_pos h, if_pos hl]
theorem mendR_good {i : Nat} {f : Form} (h : (checkS s).2.2 = 0) (hl : letterE l = 0) (hf : s.forms[i]? = some f) : mendR s i l = (((mendsF f.parts l : Nat) : Int), 0) := by
  have V := shelf_iff.1 h
  unfold mendR thenE
  rw [formI_zero V hf, if_pos rfl, if_pos hl, partsOf_eq V hf]
theorem has_mends {i : Nat} {f : Form} (h : (checkS s).2.2 = 0) (hf : s.forms[i]? = some f) : (ofL s.forms l).any (· == (i : Int)) = ((mendsF f.parts l : Nat) == 0) := by
  have V := shelf_iff.1 h
  rw [Bool.eq_iff_iff, beq_iff_eq, mends_zero (form_v V hf).parts, ← ofL_has V hf l i hf, List.any_eq_true]
  constructor
  · rintro ⟨x, hx, e⟩
    rw [beq_iff_eq] at e
    subst e; exact hx
  · intro hx
    exact ⟨_, hx, by simp⟩
/-- A letter's corrections are few. -/
theorem mends_small {f : Form} (hv : FormV f) (h15 : l.length ≤ 15) : mendsF f.parts l ≤ 1000 := by
  obtain ⟨m, hm, e⟩ := mends_is hv.parts l
  have := far_le l (shapeF f.parts m)
  have := (shape_small hv hm).2.2
  omega
end
/-- Whether there are a shelf with forms, and a letter. -/
theorem ok_parts {c : Int} {n : Nat} {d : Int} (h : ¬ (c = 0 ∧ n ≠ 0 ∧ d = 0)) : ((c == 0) = false) ∨ ((c == 0) = true ∧ n = 0) ∨ ((c == 0) = true ∧ n ≠ 0 ∧ (d != 0) = true) := by
  by_cases h1 : c = 0
  · by_cases h2 : n = 0
    · exact .inr (.inl ⟨by rw [h1]; rfl, h2⟩)
    · exact .inr (.inr ⟨by rw [h1]; rfl, h2, by rw [bne_iff_ne]; exact fun h3 => h ⟨h1, h2, h3⟩⟩)
  · exact .inl (by rw [beq_eq_false_iff_ne]; exact h1)
end Go.Px

namespace Go.Px
open Go.Proofs
theorem anyRoom_snoc (x : List UInt8) (a k : Nat) : anyRoom x a (k + 1) = anyRoom x a k ++ [saidW (turnF x (a + k))] := by
  unfold anyRoom
  rw [List.range_succ, List.map_append]; rfl
theorem any_ev (f : Form) (hv : FormV f) (x : List UInt8) : Ev Try.prog 45 [.agg f.enc, bytes x] (fillsV (anyF x (roomsL f.parts) 0)) := by
  have hp5 := hv.p5
  have hro := rooms_ok hv.parts
  have hrl := roomsL_len f.parts
  have hrm := rrooms_ev f (by omega)
  refine Ev.intro fn45 ?_
  refine LWp.sx (gs := []) (hs := [.ice]) rfl ⟨⟨rfl, rfl⟩, trivial⟩ ?_
  generalize roomsL f.parts = rs at hro hrl hrm
  have hrll : (rs.map fun r => [I r.1, I r.2]).length = rs.length := List.length_map _
  refine LWp.sx (gs := []) (hs := [.ret (roomsV rs)]) rfl ⟨hrm, trivial⟩ ?_
  refine LWp.sx (gs := []) (hs := []) rfl trivial ?_
  refine LWp.ent (Ent.nilSl (t := 6) 1 rfl) ?_
  refine LWp.sx (gs := []) (hs := []) rfl trivial ?_
  refine LWp.seq (LWp.seq ?_)
  refine LWp.x (gs := []) (hs := []) rfl trivial ?_
  generalize hF : anyF x rs 0 = F
  refine LWp.blockT (fun _ : Unit => True) (fun _ => el [(6, fillsV F)]) (fun _ => []) (fun _ => []) ?_ ?_
  · refine LWp.loopN (X := Nat × Nat × List (List Wd)) (fun y => y.1 ≤ rs.length ∧ y.2.1 ≤ 4 * y.1 ∧ y.2.2.length ≤ y.1 ∧ F = y.2.2 ++ anyF x (rs.drop y.1) y.2.1) (fun y => el [(1, bytes x), (5, roomsV rs), (6, fillsV y.2.2), (7, I y.2.1), (8, I y.1)]) (fun _ => []) (fun _ => []) (fun y => rs.length - y.1) (0, 0, []) ⟨Nat.zero_le _, by simp, by simp, by rw [← hF]; rfl⟩
      (Ent.el ⟨rfl, rfl, rfl, rfl, rfl, trivial⟩) ?_
    rintro ⟨i, a, dn⟩ ⟨hi, ha, hd, hFe⟩
    simp only at hi ha hd hFe
    have hdl : (dn.map fun f => [strs f]).length = dn.length := List.length_map _
    refine LWp.ent (Ent.el (l := [(1, bytes x), (5, roomsV rs), (6, fillsV dn), (7, I a), (8, I i)]) ⟨rfl, rfl, rfl, rfl, rfl, trivial⟩) ?_
    refine LWp.seq (LWp.seq ?_)
    refine LWp.x (gs := []) (hs := []) rfl trivial ?_
    refine LWp.ite rfl (fun he => ?_) (fun he => ?_)
    · simp only [List.length_map, decide_eq_true_eq, Int.ofNat_lt] at he
      obtain ⟨r, hr⟩ := ex_get he
      obtain ⟨r0, r1, r2, r3⟩ := hro r (List.mem_of_getElem? hr)
      rw [drop_cons hr, anyF] at hFe
      obtain ⟨n1, n2⟩ := anyMany_in x a r0 r1
      have hMd : (anyMany x r a : Int) = r.1 + turnF x a % (r.2 - r.1 + 1) := by
        unfold anyMany
        have := Int.emod_nonneg (turnF x a) (b := r.2 - r.1 + 1) (by omega)
        omega
      have t1 := turn_ev x a
      have u0 := turnF_nn x a
      have u1 := turnF_le x a
      generalize anyMany x r a = M at hFe n1 n2 hMd
      generalize turnF x a = v at t1 u0 u1 hMd
      have e1 : v % (r.2 - r.1 + 1) < r.2 - r.1 + 1 := Int.emod_lt_of_pos _ (by omega)
      have e2 : 0 ≤ v % (r.2 - r.1 + 1) := Int.emod_nonneg _ (by omega)
      refine LWp.skip ?_
      refine LWp.blockX (fun _ : Unit => True) (fun _ => el [(1, bytes x), (5, roomsV rs), (6, fillsV (dn ++ [anyRoom x (a + 1) M])), (7, I (a + 1 + M : Nat)), (8, I i)]) (fun _ => []) (fun _ => []) ?_ ?_
      · refine LWp.sd (gs := []) (hs := [.cells [I r.1, I r.2], .ret (I v), .cells [I r.1, I r.2], .cells [I r.1, I r.2]]) hmix rfl (by kernel_rfl) (by (repeat' (with_reducible apply And.intro)); (all_goals first | (with_reducible exact trivial) | (with_reducible rfl) | (with_reducible assumption) | ((with_reducible apply isB); first | exact rfl | exact beq_self_eq_true _) | omega | ((first | exact t1 | (simp [hr]; done))))) ?_
        refine LWp.ent (Ent.el (l := [(1, bytes x), (5, roomsV rs), (6, fillsV dn), (7, I a), (8, I i), (9, I M)]) ⟨rfl, rfl, rfl, rfl, rfl, by show I _ = I _; rw [hMd], trivial⟩) ?_
        refine LWp.sx (gs := []) (hs := []) rfl ⟨by omega, trivial⟩ ?_
        refine LWp.sx (gs := []) (hs := []) rfl trivial ?_
        refine LWp.ent (Ent.nilLin (t := 10) 9 1 rfl) ?_
        refine LWp.seq (LWp.seq ?_)
        refine LWp.x (gs := []) (hs := []) rfl trivial ?_
        refine LWp.blockT (fun _ : Unit => True) (fun _ => el [(1, bytes x), (5, roomsV rs), (6, fillsV dn), (7, I (a + 1 + M : Nat)), (8, I i), (10, strs (anyRoom x (a + 1) M))]) (fun _ => []) (fun _ => []) ?_ ?_
        · refine LWp.loopN (fun k : Nat => k ≤ M) (fun k => el [(1, bytes x), (5, roomsV rs), (6, fillsV dn), (7, I (a + 1 + k : Nat)), (8, I i), (9, I M), (10, .lin 9 1 ((anyRoom x (a + 1) k).map fun s => [Str s])), (11, I k)]) (fun _ => []) (fun _ => []) (fun k => M - k) 0 (Nat.zero_le _)
            (Ent.el ⟨rfl, rfl, rfl, rfl, rfl, rfl, rfl, rfl, trivial⟩) ?_
          intro k hk
          refine LWp.seq (LWp.seq ?_)
          refine LWp.x (gs := []) (hs := []) rfl trivial ?_
          refine LWp.ite rfl (fun hc => ?_) (fun hc => ?_)
          · simp only [decide_eq_true_eq, Int.ofNat_lt] at hc
            have t2 := turn_ev x (a + 1 + k)
            have hsg := saidW_get (turnF x (a + 1 + k))
            have w0 := turnF_nn x (a + 1 + k)
            have hsn := anyRoom_snoc x (a + 1) k
            have hal : ((anyRoom x (a + 1) k).map fun s => [Str s]).length = k := by simp [anyRoom]
            generalize hsw : saidW (turnF x (a + 1 + k)) = sw at *
            generalize turnF x (a + 1 + k) = v2 at *
            have hL8 : ((saidL.map fun s => [Str s]).length : Int) = 8 := rfl
            have hsd := said_ev
            refine LWp.skip ?_
            refine LWp.blockX (fun _ : Unit => True) (fun _ => el [(1, bytes x), (5, roomsV rs), (6, fillsV dn), (7, I (a + 1 + (k + 1) : Nat)), (8, I i), (9, I M), (10, .lin 9 1 ((anyRoom x (a + 1) (k + 1)).map fun s => [Str s])), (11, I k)]) (fun _ => []) (fun _ => []) ?_ ?_
            · rw [hsn]
              generalize saidL = sl at hsg hL8 hsd
              generalize anyRoom x (a + 1) k = R at hal
              refine LWp.sx (gs := []) (hs := [.ret (strs sl), .ret (I v2), .ret (strs sl), .cells [Str sw], .ice]) rfl (by exact ⟨hsd, t2, hsd, ⟨w0, by rw [hL8]; omega⟩, ⟨by rw [hL8]; omega, by rw [hL8]; simp [hsg]⟩, rfl, ⟨by rw [hal]; show (k + 1) * 16 ≤ _; omega, by rw [hal]; show k + 1 ≤ _; omega⟩, trivial⟩) ?_
              refine LWp.x (gs := []) (hs := []) rfl ⟨by omega, trivial⟩ ?_
              exact ⟨(), trivial, Ent.el ⟨rfl, rfl, rfl, rfl, rfl, rfl, by rw [List.map_append]; rfl, rfl, trivial⟩⟩
            intro _ _
            refine LWp.x (gs := []) (hs := []) rfl ⟨by omega, trivial⟩ ?_
            exact ⟨k + 1, by omega, by omega, Ent.el ⟨rfl, rfl, rfl, rfl, rfl, rfl, rfl, rfl, trivial⟩⟩
          · simp only [decide_eq_false_iff_not, Int.ofNat_lt] at hc
            have : k = M := by omega
            subst this
            exact LWp.exit ⟨(), trivial, Ent.trans (Ent.freezeLin (t := 10) rfl) (Ent.el ⟨rfl, rfl, rfl, rfl, rfl, rfl, trivial⟩)⟩
        intro _ _
        generalize anyRoom x (a + 1) M = R
        refine LWp.x (gs := []) (hs := [.lin, .ice]) rfl (by exact ⟨rfl, ⟨by show (0 + (dn.map fun f => [strs f]).length) * 24 ≤ _; rw [hdl]; omega, by show 0 + (dn.map fun f => [strs f]).length ≤ _; rw [hdl]; omega⟩, rfl, ⟨by show ((([] : List (List AV)) ++ dn.map fun f => [strs f]).length + 1) * 24 ≤ _; rw [List.nil_append, hdl]; omega, by show (([] : List (List AV)) ++ dn.map fun f => [strs f]).length + 1 ≤ _; rw [List.nil_append, hdl]; omega⟩, trivial⟩) ?_
        refine ⟨(), trivial, Ent.trans (Ent.freezeLin (t := 6) rfl) (Ent.el ⟨rfl, rfl, by show _ = AV.sl 1 ((dn ++ [_]).map fun f => [strs f]); rw [List.map_append]; rfl, rfl, rfl, trivial⟩)⟩
      intro _ _
      refine LWp.x (gs := []) (hs := []) rfl ⟨by omega, trivial⟩ ?_
      refine ⟨(i + 1, a + 1 + M, dn ++ [anyRoom x (a + 1) M]), ⟨by simp only; omega, by simp only; omega, by simp; omega, ?_⟩, by simp only; omega, Ent.el ⟨rfl, rfl, rfl, rfl, rfl, trivial⟩⟩
      simp only
      rw [hFe]; simp
    · simp only [List.length_map, decide_eq_false_iff_not, Int.ofNat_lt] at he
      refine LWp.exit ⟨(), trivial, Ent.el ⟨?_, trivial⟩⟩
      rw [hFe, List.drop_eq_nil_of_le (by omega)]
      show _ = fillsV (dn ++ [])
      rw [List.append_nil]; rfl
  intro _ _
  refine LWp.sx (gs := []) (hs := []) rfl trivial ?_
  refine LWp.ret (retT (.inr rfl) (.one (.tmp ?_ rfl)))
  rfl
end Go.Px

namespace Go.Px
open Go.Proofs
theorem whichN_get {s : Shelf} (hne : s.forms ≠ []) (w : Int) : ∃ f, s.forms[whichN s w]? = some f := by
  have := List.length_pos_iff.2 hne
  exact ex_get (Nat.mod_lt _ this)
end Go.Px

