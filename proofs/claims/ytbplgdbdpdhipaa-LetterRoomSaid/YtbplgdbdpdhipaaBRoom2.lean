/- Part 2 of the proof of the statement LetterRoom (contracts of the functions that it alone wants). No conditions. -/
import Derived.Test.YtbplgdbdpdhipaaBRoom1
import Derived.Test.YtbplgdbdpdhipaaChecked
import Derived.KernelRfl
namespace Go.Px
open Go.Proofs
set_option maxRecDepth 100000
def L15 : LCode :=
 (.seq
 (.ops [⟨(some 3), none, .box 24 (tm 0)⟩,
 ⟨(some 5), none, .box 80 (tm 2)⟩,
 ⟨(some 6), none, .mov (.const (.bool false))⟩])
 (.seq
 (.seq
 (.ops [⟨(some 23), none, .load 24 (tm 3) (some 2)⟩,
 ⟨(some 24), none, .call 43 [(tm 23)] 4⟩,
 ⟨(some 25), none, .un .not (tm 24)⟩,
 ⟨(some 26), none, .mov (tm 25)⟩,
 ⟨(some 27), some (26, false), .faddr 24 (tm 3) 1 1⟩,
 ⟨(some 28), some (26, false), .load 22 (tm 27) none⟩,
 ⟨(some 29), some (26, false), .len false 22 3 (tm 28)⟩,
 ⟨(some 30), some (26, false), .bin .eql 3 (tm 29) (kc 0)⟩,
 ⟨(some 31), none, .pick (tm 26) (.const (.bool true)) (tm 30)⟩,
 ⟨(some 32), none, .mov (tm 31)⟩,
 ⟨(some 33), some (32, false), .mov (tm 1)⟩,
 ⟨(some 34), some (32, false), .call 48 [(tm 33)] 26⟩,
 ⟨(some 35), some (32, false), .bin .neq 26 (tm 34) (kc 0)⟩,
 ⟨(some 36), none, .pick (tm 32) (.const (.bool true)) (tm 35)⟩])
 (.ite (tm 36)
 (.seq
 (.ops [⟨(some 38), none, .load 24 (tm 3) (some 2)⟩,
 ⟨(some 39), none, .mov (tm 1)⟩,
 ⟨(some 40), none, .call 37 [(tm 38), (kc 0), (tm 39)] 53⟩,
 ⟨(some 37), none, .mov (tm 40)⟩,
 ⟨(some 41), none, .extract (tm 37) 0⟩,
 ⟨(some 42), none, .extract (tm 37) 1⟩,
 ⟨(some 7), none, .mov (tm 41)⟩,
 ⟨(some 8), none, .mov (tm 42)⟩])
 (.seq
 (.ops [⟨(some 43), none, .mov (tm 8)⟩,
 ⟨(some 44), none, .bin .neq 26 (tm 43) (kc 0)⟩,
 ⟨(some 45), none, .mov (tm 44)⟩,
 ⟨(some 46), some (45, true), .call 21 [] 4⟩,
 ⟨(some 47), none, .pick (tm 45) (tm 46) (.const (.bool false))⟩,
 ⟨(some 6), none, .mov (tm 47)⟩])
 .ret))
 .skip))
 (.seq
 (.ops [⟨(some 48), none, .load 24 (tm 3) (some 2)⟩,
 ⟨(some 49), none, .iaddrA 80 (tm 5) (kc 0) 3 1⟩,
 ⟨(some 50), none, .load 5 (tm 49) none⟩,
 ⟨(some 51), none, .call 44 [(tm 48), (tm 50)] 3⟩,
 ⟨(some 9), none, .mov (tm 51)⟩])
 (.seq
 (.ops [⟨(some 52), none, .load 24 (tm 3) (some 2)⟩,
 ⟨(some 10), none, .alloc 24 [(.int .i64 0), (.slice none 0 0)]⟩,
 ⟨none, none, .store 24 (tm 10) (tm 52) 2⟩])
 (.seq
 (.ops [⟨(some 53), none, .bslice 22 0 [] 64 2 [(.string ⟨#[]⟩), (.slice none 0 0)]⟩,
 ⟨(some 54), none, .faddr 24 (tm 3) 1 1⟩,
 ⟨(some 55), none, .load 22 (tm 54) none⟩,
 ⟨(some 56), none, .append 22 22 (tm 53) (tm 55) 64 2 40 [(.string ⟨#[]⟩), (.slice none 0 0)]⟩,
 ⟨(some 57), none, .faddr 24 (tm 10) 1 1⟩,
 ⟨none, none, .store 22 (tm 57) (tm 56) 1⟩])
 (.seq
 (.ops [⟨(some 58), none, .faddr 24 (tm 10) 1 1⟩,
 ⟨(some 59), none, .load 22 (tm 58) none⟩,
 ⟨(some 60), none, .mov (tm 9)⟩,
 ⟨(some 61), none, .iaddr 22 (tm 59) (tm 60) 2⟩,
 ⟨(some 62), none, .load 64 (tm 61) (some 2)⟩,
 ⟨(some 11), none, .alloc 64 [(.string ⟨#[]⟩), (.slice none 0 0)]⟩,
 ⟨none, none, .store 64 (tm 11) (tm 62) 2⟩])
 (.seq
 (.ops [⟨(some 63), none, .bslice 62 0 [] 84 3 [(.slice none 0 0), (.int .i64 0), (.int .i64 0)]⟩,
 ⟨(some 64), none, .faddr 64 (tm 11) 1 1⟩,
 ⟨(some 65), none, .load 62 (tm 64) none⟩,
 ⟨(some 66), none, .append 62 62 (tm 63) (tm 65) 84 3 40 [(.slice none 0 0), (.int .i64 0), (.int .i64 0)]⟩,
 ⟨(some 67), none, .faddr 64 (tm 11) 1 1⟩,
 ⟨none, none, .store 62 (tm 67) (tm 66) 1⟩])
 (.seq
 (.seq
 (.ops [⟨(some 12), none, .mov (kc 0)⟩])
 (.block 0
 (.loop
 (.seq
 (.seq
 (.ops [⟨(some 68), none, .mov (tm 12)⟩,
 ⟨(some 69), none, .faddr 64 (tm 11) 1 1⟩,
 ⟨(some 70), none, .load 62 (tm 69) none⟩,
 ⟨(some 71), none, .len false 62 3 (tm 70)⟩,
 ⟨(some 72), none, .bin .lss 3 (tm 68) (tm 71)⟩])
 (.ite (tm 72)
 .skip
 (.exit 0)))
 (.seq
 (.block 1
 (.seq
 (.ops [⟨(some 75), none, .faddr 64 (tm 11) 1 1⟩,
 ⟨(some 76), none, .load 62 (tm 75) none⟩,
 ⟨(some 77), none, .mov (tm 12)⟩,
 ⟨(some 78), none, .iaddr 62 (tm 76) (tm 77) 3⟩,
 ⟨(some 79), none, .load 84 (tm 78) (some 3)⟩,
 ⟨(some 13), none, .alloc 84 [(.slice none 0 0), (.int .i64 0), (.int .i64 0)]⟩,
 ⟨none, none, .store 84 (tm 13) (tm 79) 3⟩])
 (.seq
 (.seq
 (.ops [⟨(some 80), none, .load 84 (tm 13) (some 3)⟩,
 ⟨(some 81), none, .call 55 [(tm 80)] 4⟩])
 (.ite (tm 81)
 (.ops [⟨(some 82), none, .faddr 84 (tm 13) 1 1⟩,
 ⟨(some 83), none, .faddr 82 (tm 82) 0 0⟩,
 ⟨(some 84), none, .load 3 (tm 83) none⟩,
 ⟨(some 85), none, .iaddrA 80 (tm 5) (kc 1) 3 1⟩,
 ⟨(some 86), none, .load 5 (tm 85) none⟩,
 ⟨(some 87), none, .toInt .i64 5 3 (tm 86)⟩,
 ⟨(some 88), none, .bin .rem 3 (tm 87) (kc 3)⟩,
 ⟨(some 89), none, .bin .sub 3 (tm 84) (tm 88)⟩,
 ⟨(some 90), none, .max [3, 3] 3 [(kc 0), (tm 89)]⟩,
 ⟨(some 91), none, .faddr 84 (tm 13) 1 1⟩,
 ⟨(some 92), none, .faddr 82 (tm 91) 1 1⟩,
 ⟨(some 93), none, .load 3 (tm 92) none⟩,
 ⟨(some 94), none, .iaddrA 80 (tm 5) (kc 2) 3 1⟩,
 ⟨(some 95), none, .load 5 (tm 94) none⟩,
 ⟨(some 96), none, .toInt .i64 5 3 (tm 95)⟩,
 ⟨(some 97), none, .bin .rem 3 (tm 96) (kc 3)⟩,
 ⟨(some 98), none, .bin .add 3 (tm 93) (tm 97)⟩,
 ⟨(some 99), none, .min [3, 3] 3 [(kc 3), (tm 98)]⟩,
 ⟨(some 100), none, .call 56 [(tm 90), (tm 99)] 82⟩,
 ⟨(some 101), none, .faddr 84 (tm 13) 1 1⟩,
 ⟨none, none, .store 82 (tm 101) (tm 100) 2⟩])
 .skip))
 (.ops [⟨(some 102), none, .faddr 64 (tm 11) 1 1⟩,
 ⟨(some 103), none, .load 62 (tm 102) none⟩,
 ⟨(some 104), none, .mov (tm 12)⟩,
 ⟨(some 105), none, .load 84 (tm 13) (some 3)⟩,
 ⟨(some 106), none, .iaddr 62 (tm 103) (tm 104) 3⟩,
 ⟨none, none, .store 84 (tm 106) (tm 105) 3⟩]))))
 (.ops [⟨(some 73), none, .mov (tm 12)⟩,
 ⟨(some 74), none, .bin .add 3 (tm 73) (kc 1)⟩,
 ⟨(some 12), none, .mov (tm 74)⟩]))))))
 (.seq
 (.ops [⟨(some 107), none, .faddr 24 (tm 10) 1 1⟩,
 ⟨(some 108), none, .load 22 (tm 107) none⟩,
 ⟨(some 109), none, .mov (tm 9)⟩,
 ⟨(some 110), none, .load 64 (tm 11) (some 2)⟩,
 ⟨(some 111), none, .iaddr 22 (tm 108) (tm 109) 2⟩,
 ⟨none, none, .store 64 (tm 111) (tm 110) 2⟩])
 (.seq
 (.ops [⟨(some 113), none, .load 24 (tm 3) (some 2)⟩,
 ⟨(some 114), none, .mov (tm 1)⟩,
 ⟨(some 115), none, .call 22 [(tm 113), (tm 114)] 36⟩,
 ⟨(some 112), none, .mov (tm 115)⟩,
 ⟨(some 116), none, .extract (tm 112) 0⟩,
 ⟨(some 117), none, .extract (tm 112) 1⟩,
 ⟨(some 14), none, .mov (tm 116)⟩,
 ⟨(some 15), none, .mov (tm 117)⟩])
 (.seq
 (.ops [⟨(some 119), none, .load 24 (tm 10) (some 2)⟩,
 ⟨(some 120), none, .mov (tm 1)⟩,
 ⟨(some 121), none, .call 22 [(tm 119), (tm 120)] 36⟩,
 ⟨(some 118), none, .mov (tm 121)⟩,
 ⟨(some 122), none, .extract (tm 118) 0⟩,
 ⟨(some 123), none, .extract (tm 118) 1⟩,
 ⟨(some 16), none, .mov (tm 122)⟩,
 ⟨(some 17), none, .mov (tm 123)⟩])
 (.seq
 (.ops [⟨(some 125), none, .load 24 (tm 3) (some 2)⟩,
 ⟨(some 126), none, .mov (tm 9)⟩,
 ⟨(some 127), none, .mov (tm 1)⟩,
 ⟨(some 128), none, .call 37 [(tm 125), (tm 126), (tm 127)] 53⟩,
 ⟨(some 124), none, .mov (tm 128)⟩,
 ⟨(some 129), none, .extract (tm 124) 0⟩,
 ⟨(some 130), none, .extract (tm 124) 1⟩,
 ⟨(some 18), none, .mov (tm 129)⟩,
 ⟨(some 19), none, .mov (tm 130)⟩])
 (.seq
 (.ops [⟨(some 132), none, .load 24 (tm 10) (some 2)⟩,
 ⟨(some 133), none, .mov (tm 9)⟩,
 ⟨(some 134), none, .mov (tm 1)⟩,
 ⟨(some 135), none, .call 37 [(tm 132), (tm 133), (tm 134)] 53⟩,
 ⟨(some 131), none, .mov (tm 135)⟩,
 ⟨(some 136), none, .extract (tm 131) 0⟩,
 ⟨(some 137), none, .extract (tm 131) 1⟩,
 ⟨(some 20), none, .mov (tm 136)⟩,
 ⟨(some 21), none, .mov (tm 137)⟩])
 (.seq
 (.seq
 (.ops [⟨(some 138), none, .mov (tm 15)⟩,
 ⟨(some 139), none, .bin .neq 26 (tm 138) (kc 0)⟩,
 ⟨(some 140), none, .mov (tm 139)⟩,
 ⟨(some 141), some (140, false), .mov (tm 17)⟩,
 ⟨(some 142), some (140, false), .bin .neq 26 (tm 141) (kc 0)⟩,
 ⟨(some 143), none, .pick (tm 140) (.const (.bool true)) (tm 142)⟩,
 ⟨(some 144), none, .mov (tm 143)⟩,
 ⟨(some 145), some (144, false), .mov (tm 19)⟩,
 ⟨(some 146), some (144, false), .bin .neq 26 (tm 145) (kc 0)⟩,
 ⟨(some 147), none, .pick (tm 144) (.const (.bool true)) (tm 146)⟩,
 ⟨(some 148), none, .mov (tm 147)⟩,
 ⟨(some 149), some (148, false), .mov (tm 21)⟩,
 ⟨(some 150), some (148, false), .bin .neq 26 (tm 149) (kc 0)⟩,
 ⟨(some 151), none, .pick (tm 148) (.const (.bool true)) (tm 150)⟩,
 ⟨(some 152), none, .mov (tm 151)⟩,
 ⟨(some 153), some (152, false), .mov (tm 20)⟩,
 ⟨(some 154), some (152, false), .mov (tm 18)⟩,
 ⟨(some 155), some (152, false), .bin .gtr 3 (tm 153) (tm 154)⟩,
 ⟨(some 156), none, .pick (tm 152) (.const (.bool true)) (tm 155)⟩])
 (.ite (tm 156)
 (.seq
 (.ops [⟨(some 6), none, .mov (.const (.bool false))⟩])
 .ret)
 .skip))
 (.seq
 (.seq
 (.ops [⟨(some 22), none, .mov (kc 0)⟩])
 (.block 2
 (.loop
 (.seq
 (.seq
 (.ops [⟨(some 157), none, .mov (tm 22)⟩,
 ⟨(some 158), none, .mov (tm 14)⟩,
 ⟨(some 159), none, .len false 35 3 (tm 158)⟩,
 ⟨(some 160), none, .bin .lss 3 (tm 157) (tm 159)⟩])
 (.ite (tm 160)
 .skip
 (.exit 2)))
 (.seq
 (.block 3
 (.seq
 (.ops [⟨(some 163), none, .mov (tm 16)⟩,
 ⟨(some 164), none, .mov (tm 14)⟩,
 ⟨(some 165), none, .mov (tm 22)⟩,
 ⟨(some 166), none, .iaddr 35 (tm 164) (tm 165) 1⟩,
 ⟨(some 167), none, .load 3 (tm 166) none⟩,
 ⟨(some 168), none, .call 46 [(tm 163), (tm 167)] 4⟩,
 ⟨(some 169), none, .un .not (tm 168)⟩])
 (.ite (tm 169)
 (.seq
 (.ops [⟨(some 6), none, .mov (.const (.bool false))⟩])
 .ret)
 .skip)))
 (.ops [⟨(some 161), none, .mov (tm 22)⟩,
 ⟨(some 162), none, .bin .add 3 (tm 161) (kc 1)⟩,
 ⟨(some 22), none, .mov (tm 162)⟩]))))))
 (.seq
 (.ops [⟨(some 170), none, .call 21 [] 4⟩,
 ⟨(some 6), none, .mov (tm 170)⟩])
 .ret))))))))))))))))
theorem fn15 : FnOK Try.prog 15 171 [.tmp 6] L15 := ⟨Try.f15, Try.func15, by kernel_rfl, Try.ntmps15, by rw [Try.results15], by kernel_rfl⟩
def L17 : LCode :=
 (.seq
 (.ops [⟨(some 1), none, .box 24 (tm 0)⟩,
 ⟨(some 2), none, .mov (kc 0)⟩,
 ⟨(some 3), none, .mov (kc 0)⟩,
 ⟨(some 4), none, .mov (kc 0)⟩])
 (.seq
 (.seq
 (.ops [⟨(some 10), none, .faddr 24 (tm 1) 0 0⟩,
 ⟨(some 11), none, .load 3 (tm 10) none⟩,
 ⟨(some 12), none, .call 53 [(tm 11), (kc 8), (kc 30)] 4⟩,
 ⟨(some 13), none, .un .not (tm 12)⟩])
 (.ite (tm 13)
 (.seq
 (.ops [⟨(some 2), none, .mov (kc 1)⟩,
 ⟨(some 3), none, .mov (kc 0)⟩,
 ⟨(some 4), none, .mov (kc 7)⟩])
 .ret)
 .skip))
 (.seq
 (.seq
 (.ops [⟨(some 14), none, .faddr 24 (tm 1) 1 1⟩,
 ⟨(some 15), none, .load 22 (tm 14) none⟩,
 ⟨(some 16), none, .len false 22 3 (tm 15)⟩,
 ⟨(some 17), none, .bin .gtr 3 (tm 16) (kc 4)⟩])
 (.ite (tm 17)
 (.seq
 (.ops [⟨(some 2), none, .mov (kc 2)⟩,
 ⟨(some 3), none, .mov (kc 0)⟩,
 ⟨(some 4), none, .mov (kc 3)⟩])
 .ret)
 .skip))
 (.seq
 (.ops [⟨(some 5), none, .mov (.const (.slice none 0 0))⟩])
 (.seq
 (.seq
 (.ops [⟨(some 6), none, .mov (kc 0)⟩])
 (.block 0
 (.loop
 (.seq
 (.seq
 (.ops [⟨(some 18), none, .mov (tm 6)⟩,
 ⟨(some 19), none, .faddr 24 (tm 1) 1 1⟩,
 ⟨(some 20), none, .load 22 (tm 19) none⟩,
 ⟨(some 21), none, .len false 22 3 (tm 20)⟩,
 ⟨(some 22), none, .bin .lss 3 (tm 18) (tm 21)⟩])
 (.ite (tm 22)
 .skip
 (.exit 0)))
 (.seq
 (.block 1
 (.seq
 (.ops [⟨(some 25), none, .faddr 24 (tm 1) 1 1⟩,
 ⟨(some 26), none, .load 22 (tm 25) none⟩,
 ⟨(some 27), none, .mov (tm 6)⟩,
 ⟨(some 28), none, .iaddr 22 (tm 26) (tm 27) 2⟩,
 ⟨(some 29), none, .load 64 (tm 28) (some 2)⟩,
 ⟨(some 7), none, .alloc 64 [(.string ⟨#[]⟩), (.slice none 0 0)]⟩,
 ⟨none, none, .store 64 (tm 7) (tm 29) 2⟩])
 (.seq
 (.ops [⟨(some 30), none, .faddr 64 (tm 7) 0 0⟩,
 ⟨(some 31), none, .load 9 (tm 30) none⟩,
 ⟨(some 32), none, .mov (tm 5)⟩,
 ⟨(some 33), none, .call 62 [(tm 31), (tm 32)] 26⟩,
 ⟨(some 8), none, .mov (tm 33)⟩])
 (.seq
 (.ops [⟨(some 34), none, .mov (tm 5)⟩,
 ⟨(some 35), none, .faddr 64 (tm 7) 0 0⟩,
 ⟨(some 36), none, .load 9 (tm 35) none⟩,
 ⟨(some 37), none, .bslice 29 1 [(0, (tm 36))] 9 1 [(.string ⟨#[]⟩)]⟩,
 ⟨(some 38), none, .append 29 29 (tm 34) (tm 37) 9 1 16 [(.string ⟨#[]⟩)]⟩,
 ⟨(some 5), none, .mov (tm 38)⟩])
 (.seq
 (.seq
 (.ops [⟨(some 39), none, .mov (tm 8)⟩,
 ⟨(some 40), none, .bin .eql 26 (tm 39) (kc 0)⟩,
 ⟨(some 41), none, .mov (tm 40)⟩,
 ⟨(some 42), some (41, true), .faddr 64 (tm 7) 1 1⟩,
 ⟨(some 43), some (41, true), .load 62 (tm 42) none⟩,
 ⟨(some 44), some (41, true), .len false 62 3 (tm 43)⟩,
 ⟨(some 45), some (41, true), .bin .gtr 3 (tm 44) (kc 5)⟩,
 ⟨(some 46), none, .pick (tm 41) (tm 45) (.const (.bool false))⟩])
 (.ite (tm 46)
 (.ops [⟨(some 8), none, .mov (kc 3)⟩])
 .skip))
 (.seq
 (.seq
 (.ops [⟨(some 9), none, .mov (kc 0)⟩])
 (.block 2
 (.loop
 (.seq
 (.seq
 (.ops [⟨(some 47), none, .mov (tm 9)⟩,
 ⟨(some 48), none, .faddr 64 (tm 7) 1 1⟩,
 ⟨(some 49), none, .load 62 (tm 48) none⟩,
 ⟨(some 50), none, .len false 62 3 (tm 49)⟩,
 ⟨(some 51), none, .bin .lss 3 (tm 47) (tm 50)⟩,
 ⟨(some 52), none, .mov (tm 51)⟩,
 ⟨(some 53), some (52, true), .mov (tm 8)⟩,
 ⟨(some 54), some (52, true), .bin .eql 26 (tm 53) (kc 0)⟩,
 ⟨(some 55), none, .pick (tm 52) (tm 54) (.const (.bool false))⟩])
 (.ite (tm 55)
 .skip
 (.exit 2)))
 (.seq
 (.block 3
 (.ops [⟨(some 58), none, .faddr 64 (tm 7) 1 1⟩,
 ⟨(some 59), none, .load 62 (tm 58) none⟩,
 ⟨(some 60), none, .mov (tm 9)⟩,
 ⟨(some 61), none, .iaddr 62 (tm 59) (tm 60) 3⟩,
 ⟨(some 62), none, .load 84 (tm 61) (some 3)⟩,
 ⟨(some 63), none, .call 63 [(tm 62)] 26⟩,
 ⟨(some 8), none, .mov (tm 63)⟩]))
 (.ops [⟨(some 56), none, .mov (tm 9)⟩,
 ⟨(some 57), none, .bin .add 3 (tm 56) (kc 1)⟩,
 ⟨(some 9), none, .mov (tm 57)⟩]))))))
 (.seq
 (.ops [⟨(some 64), none, .mov (tm 8)⟩,
 ⟨(some 65), none, .bin .neq 26 (tm 64) (kc 0)⟩])
 (.ite (tm 65)
 (.seq
 (.ops [⟨(some 66), none, .mov (tm 6)⟩,
 ⟨(some 67), none, .mov (tm 8)⟩,
 ⟨(some 2), none, .mov (kc 2)⟩,
 ⟨(some 3), none, .mov (tm 66)⟩,
 ⟨(some 4), none, .mov (tm 67)⟩])
 .ret)
 .skip))))))))
 (.ops [⟨(some 23), none, .mov (tm 6)⟩,
 ⟨(some 24), none, .bin .add 3 (tm 23) (kc 1)⟩,
 ⟨(some 6), none, .mov (tm 24)⟩]))))))
 (.seq
 (.ops [⟨(some 2), none, .mov (kc 0)⟩,
 ⟨(some 3), none, .mov (kc 0)⟩,
 ⟨(some 4), none, .mov (kc 0)⟩])
 .ret))))))
theorem fn17 : FnOK Try.prog 17 68 [.tmp 2, .tmp 3, .tmp 4] L17 := ⟨Try.f17, Try.func17, by kernel_rfl, Try.ntmps17, by rw [Try.results17], by kernel_rfl⟩
def L43 : LCode :=
 (.seq
 (.ops [⟨(some 1), none, .box 24 (tm 0)⟩,
 ⟨(some 2), none, .mov (.const (.bool false))⟩])
 (.seq
 (.ops [⟨(some 7), none, .load 24 (tm 1) (some 2)⟩,
 ⟨(some 8), none, .call 17 [(tm 7)] 27⟩,
 ⟨(some 6), none, .mov (tm 8)⟩,
 ⟨(some 9), none, .extract (tm 6) 0⟩,
 ⟨(some 10), none, .extract (tm 6) 1⟩,
 ⟨(some 11), none, .extract (tm 6) 2⟩,
 ⟨(some 3), none, .mov (tm 9)⟩,
 ⟨(some 4), none, .mov (tm 10)⟩,
 ⟨(some 5), none, .mov (tm 11)⟩])
 (.seq
 (.ops [⟨(some 12), none, .mov (tm 5)⟩,
 ⟨(some 13), none, .bin .eql 26 (tm 12) (kc 0)⟩,
 ⟨(some 2), none, .mov (tm 13)⟩])
 .ret)))
theorem fn43 : FnOK Try.prog 43 14 [.tmp 2] L43 := ⟨Try.f43, Try.func43, by kernel_rfl, Try.ntmps43, by rw [Try.results43], by kernel_rfl⟩
def L44 : LCode :=
 (.seq
 (.ops [⟨(some 2), none, .box 24 (tm 0)⟩,
 ⟨(some 4), none, .mov (kc 0)⟩])
 (.seq
 (.ops [⟨(some 5), none, .mov (tm 1)⟩,
 ⟨(some 6), none, .toInt .i64 5 3 (tm 5)⟩,
 ⟨(some 7), none, .faddr 24 (tm 2) 1 1⟩,
 ⟨(some 8), none, .load 22 (tm 7) none⟩,
 ⟨(some 9), none, .len false 22 3 (tm 8)⟩,
 ⟨(some 10), none, .bin .rem 3 (tm 6) (tm 9)⟩,
 ⟨(some 4), none, .mov (tm 10)⟩])
 .ret))
theorem fn44 : FnOK Try.prog 44 11 [.tmp 4] L44 := ⟨Try.f44, Try.func44, by kernel_rfl, Try.ntmps44, by rw [Try.results44], by kernel_rfl⟩
def L46 : LCode :=
 (.seq
 (.ops [⟨(some 4), none, .mov (.const (.bool false))⟩])
 (.seq
 (.ops [⟨(some 5), none, .mov (.const (.bool false))⟩])
 (.seq
 (.seq
 (.ops [⟨(some 6), none, .mov (kc 0)⟩])
 (.block 0
 (.loop
 (.seq
 (.seq
 (.ops [⟨(some 7), none, .mov (tm 6)⟩,
 ⟨(some 8), none, .mov (tm 0)⟩,
 ⟨(some 9), none, .len false 35 3 (tm 8)⟩,
 ⟨(some 10), none, .bin .lss 3 (tm 7) (tm 9)⟩])
 (.ite (tm 10)
 .skip
 (.exit 0)))
 (.seq
 (.block 1
 (.ops [⟨(some 13), none, .mov (tm 5)⟩,
 ⟨(some 14), none, .mov (tm 13)⟩,
 ⟨(some 15), some (14, false), .mov (tm 0)⟩,
 ⟨(some 16), some (14, false), .mov (tm 6)⟩,
 ⟨(some 17), some (14, false), .iaddr 35 (tm 15) (tm 16) 1⟩,
 ⟨(some 18), some (14, false), .load 3 (tm 17) none⟩,
 ⟨(some 19), some (14, false), .mov (tm 1)⟩,
 ⟨(some 20), some (14, false), .bin .eql 3 (tm 18) (tm 19)⟩,
 ⟨(some 21), none, .pick (tm 14) (.const (.bool true)) (tm 20)⟩,
 ⟨(some 5), none, .mov (tm 21)⟩]))
 (.ops [⟨(some 11), none, .mov (tm 6)⟩,
 ⟨(some 12), none, .bin .add 3 (tm 11) (kc 1)⟩,
 ⟨(some 6), none, .mov (tm 12)⟩]))))))
 (.seq
 (.ops [⟨(some 22), none, .mov (tm 5)⟩,
 ⟨(some 4), none, .mov (tm 22)⟩])
 .ret))))
theorem fn46 : FnOK Try.prog 46 23 [.tmp 4] L46 := ⟨Try.f46, Try.func46, by kernel_rfl, Try.ntmps46, by rw [Try.results46], by kernel_rfl⟩
def L48 : LCode :=
 (.seq
 (.ops [⟨(some 2), none, .mov (kc 0)⟩])
 (.seq
 (.seq
 (.ops [⟨(some 3), none, .mov (tm 0)⟩,
 ⟨(some 4), none, .len false 29 3 (tm 3)⟩,
 ⟨(some 5), none, .bin .gtr 3 (tm 4) (kc 15)⟩])
 (.ite (tm 5)
 (.seq
 (.ops [⟨(some 2), none, .mov (kc 3)⟩])
 .ret)
 .skip))
 (.seq
 (.seq
 (.ops [⟨(some 6), none, .mov (tm 0)⟩,
 ⟨(some 7), none, .call 95 [(tm 6)] 4⟩,
 ⟨(some 8), none, .un .not (tm 7)⟩])
 (.ite (tm 8)
 (.seq
 (.ops [⟨(some 2), none, .mov (kc 6)⟩])
 .ret)
 .skip))
 (.seq
 (.ops [⟨(some 2), none, .mov (kc 0)⟩])
 .ret))))
theorem fn48 : FnOK Try.prog 48 9 [.tmp 2] L48 := ⟨Try.f48, Try.func48, by kernel_rfl, Try.ntmps48, by rw [Try.results48], by kernel_rfl⟩
def L53 : LCode :=
 (.seq
 (.ops [⟨(some 6), none, .mov (.const (.bool false))⟩])
 (.seq
 (.ops [⟨(some 7), none, .mov (tm 0)⟩,
 ⟨(some 8), none, .mov (tm 1)⟩,
 ⟨(some 9), none, .bin .geq 3 (tm 7) (tm 8)⟩,
 ⟨(some 10), none, .mov (tm 9)⟩,
 ⟨(some 11), some (10, true), .mov (tm 0)⟩,
 ⟨(some 12), some (10, true), .mov (tm 2)⟩,
 ⟨(some 13), some (10, true), .bin .leq 3 (tm 11) (tm 12)⟩,
 ⟨(some 14), none, .pick (tm 10) (tm 13) (.const (.bool false))⟩,
 ⟨(some 6), none, .mov (tm 14)⟩])
 .ret))
theorem fn53 : FnOK Try.prog 53 15 [.tmp 6] L53 := ⟨Try.f53, Try.func53, by kernel_rfl, Try.ntmps53, by rw [Try.results53], by kernel_rfl⟩
def L55 : LCode :=
 (.seq
 (.ops [⟨(some 1), none, .box 84 (tm 0)⟩,
 ⟨(some 2), none, .mov (.const (.bool false))⟩])
 (.seq
 (.ops [⟨(some 3), none, .faddr 84 (tm 1) 0 0⟩,
 ⟨(some 4), none, .load 29 (tm 3) none⟩,
 ⟨(some 5), none, .len false 29 3 (tm 4)⟩,
 ⟨(some 6), none, .bin .eql 3 (tm 5) (kc 0)⟩,
 ⟨(some 2), none, .mov (tm 6)⟩])
 .ret))
theorem fn55 : FnOK Try.prog 55 7 [.tmp 2] L55 := ⟨Try.f55, Try.func55, by kernel_rfl, Try.ntmps55, by rw [Try.results55], by kernel_rfl⟩
def L62 : LCode :=
 (.seq
 (.ops [⟨(some 4), none, .mov (kc 0)⟩])
 (.seq
 (.ops [⟨(some 5), none, .mov (kc 0)⟩])
 (.seq
 (.seq
 (.ops [⟨(some 6), none, .mov (tm 1)⟩,
 ⟨(some 7), none, .mov (tm 0)⟩,
 ⟨(some 8), none, .call 100 [(tm 6), (tm 7)] 3⟩,
 ⟨(some 9), none, .bin .geq 3 (tm 8) (kc 0)⟩])
 (.ite (tm 9)
 (.ops [⟨(some 5), none, .mov (kc 5)⟩])
 .skip))
 (.seq
 (.seq
 (.ops [⟨(some 10), none, .mov (tm 0)⟩,
 ⟨(some 11), none, .call 101 [(tm 10)] 4⟩,
 ⟨(some 12), none, .un .not (tm 11)⟩])
 (.ite (tm 12)
 (.ops [⟨(some 5), none, .mov (kc 6)⟩])
 .skip))
 (.seq
 (.ops [⟨(some 13), none, .mov (tm 5)⟩,
 ⟨(some 4), none, .mov (tm 13)⟩])
 .ret)))))
theorem fn62 : FnOK Try.prog 62 14 [.tmp 4] L62 := ⟨Try.f62, Try.func62, by kernel_rfl, Try.ntmps62, by rw [Try.results62], by kernel_rfl⟩
def L63 : LCode :=
 (.seq
 (.ops [⟨(some 1), none, .box 84 (tm 0)⟩,
 ⟨(some 2), none, .mov (kc 0)⟩])
 (.seq
 (.seq
 (.ops [⟨(some 3), none, .faddr 84 (tm 1) 0 0⟩,
 ⟨(some 4), none, .load 29 (tm 3) none⟩,
 ⟨(some 5), none, .len false 29 3 (tm 4)⟩,
 ⟨(some 6), none, .bin .gtr 3 (tm 5) (kc 3)⟩])
 (.ite (tm 6)
 (.seq
 (.ops [⟨(some 2), none, .mov (kc 3)⟩])
 .ret)
 .skip))
 (.seq
 (.seq
 (.ops [⟨(some 7), none, .faddr 84 (tm 1) 0 0⟩,
 ⟨(some 8), none, .load 29 (tm 7) none⟩,
 ⟨(some 9), none, .call 95 [(tm 8)] 4⟩,
 ⟨(some 10), none, .un .not (tm 9)⟩])
 (.ite (tm 10)
 (.seq
 (.ops [⟨(some 2), none, .mov (kc 6)⟩])
 .ret)
 .skip))
 (.seq
 (.seq
 (.ops [⟨(some 11), none, .load 84 (tm 1) (some 3)⟩,
 ⟨(some 12), none, .call 55 [(tm 11)] 4⟩,
 ⟨(some 13), none, .un .not (tm 12)⟩])
 (.ite (tm 13)
 (.seq
 (.seq
 (.ops [⟨(some 14), none, .faddr 84 (tm 1) 1 1⟩,
 ⟨(some 15), none, .load 82 (tm 14) (some 2)⟩,
 ⟨(some 16), none, .build 82 [] [(.int .i64 0), (.int .i64 0)] []⟩,
 ⟨(some 17), none, .eqT true 82 (tm 15) (tm 16)⟩])
 (.ite (tm 17)
 (.seq
 (.ops [⟨(some 2), none, .mov (kc 2)⟩])
 .ret)
 .skip))
 (.seq
 (.ops [⟨(some 2), none, .mov (kc 0)⟩])
 .ret))
 .skip))
 (.seq
 (.seq
 (.ops [⟨(some 18), none, .faddr 84 (tm 1) 1 1⟩,
 ⟨(some 19), none, .faddr 82 (tm 18) 0 0⟩,
 ⟨(some 20), none, .load 3 (tm 19) none⟩,
 ⟨(some 21), none, .call 53 [(tm 20), (kc 0), (kc 3)] 4⟩,
 ⟨(some 22), none, .un .not (tm 21)⟩,
 ⟨(some 23), none, .mov (tm 22)⟩,
 ⟨(some 24), some (23, false), .faddr 84 (tm 1) 1 1⟩,
 ⟨(some 25), some (23, false), .faddr 82 (tm 24) 1 1⟩,
 ⟨(some 26), some (23, false), .load 3 (tm 25) none⟩,
 ⟨(some 27), some (23, false), .call 53 [(tm 26), (kc 1), (kc 3)] 4⟩,
 ⟨(some 28), some (23, false), .un .not (tm 27)⟩,
 ⟨(some 29), none, .pick (tm 23) (.const (.bool true)) (tm 28)⟩])
 (.ite (tm 29)
 (.seq
 (.ops [⟨(some 2), none, .mov (kc 7)⟩])
 .ret)
 .skip))
 (.seq
 (.seq
 (.ops [⟨(some 30), none, .faddr 84 (tm 1) 1 1⟩,
 ⟨(some 31), none, .faddr 82 (tm 30) 0 0⟩,
 ⟨(some 32), none, .load 3 (tm 31) none⟩,
 ⟨(some 33), none, .faddr 84 (tm 1) 1 1⟩,
 ⟨(some 34), none, .faddr 82 (tm 33) 1 1⟩,
 ⟨(some 35), none, .load 3 (tm 34) none⟩,
 ⟨(some 36), none, .bin .gtr 3 (tm 32) (tm 35)⟩])
 (.ite (tm 36)
 (.seq
 (.ops [⟨(some 2), none, .mov (kc 2)⟩])
 .ret)
 .skip))
 (.seq
 (.ops [⟨(some 2), none, .mov (kc 0)⟩])
 .ret)))))))
theorem fn63 : FnOK Try.prog 63 37 [.tmp 2] L63 := ⟨Try.f63, Try.func63, by kernel_rfl, Try.ntmps63, by rw [Try.results63], by kernel_rfl⟩
def L95 : LCode :=
 (.seq
 (.ops [⟨(some 2), none, .mov (.const (.bool false))⟩])
 (.seq
 (.ops [⟨(some 3), none, .mov (.const (.bool true))⟩])
 (.seq
 (.seq
 (.ops [⟨(some 4), none, .mov (kc 0)⟩])
 (.block 0
 (.loop
 (.seq
 (.seq
 (.ops [⟨(some 5), none, .mov (tm 4)⟩,
 ⟨(some 6), none, .mov (tm 0)⟩,
 ⟨(some 7), none, .len false 29 3 (tm 6)⟩,
 ⟨(some 8), none, .bin .lss 3 (tm 5) (tm 7)⟩])
 (.ite (tm 8)
 .skip
 (.exit 0)))
 (.seq
 (.block 1
 (.ops [⟨(some 11), none, .mov (tm 3)⟩,
 ⟨(some 12), none, .mov (tm 11)⟩,
 ⟨(some 13), some (12, true), .mov (tm 0)⟩,
 ⟨(some 14), some (12, true), .mov (tm 4)⟩,
 ⟨(some 15), some (12, true), .iaddr 29 (tm 13) (tm 14) 1⟩,
 ⟨(some 16), some (12, true), .load 9 (tm 15) none⟩,
 ⟨(some 17), some (12, true), .call 123 [(tm 16)] 4⟩,
 ⟨(some 18), none, .pick (tm 12) (tm 17) (.const (.bool false))⟩,
 ⟨(some 3), none, .mov (tm 18)⟩]))
 (.ops [⟨(some 9), none, .mov (tm 4)⟩,
 ⟨(some 10), none, .bin .add 3 (tm 9) (kc 1)⟩,
 ⟨(some 4), none, .mov (tm 10)⟩]))))))
 (.seq
 (.ops [⟨(some 19), none, .mov (tm 3)⟩,
 ⟨(some 2), none, .mov (tm 19)⟩])
 .ret))))
theorem fn95 : FnOK Try.prog 95 20 [.tmp 2] L95 := ⟨Try.f95, Try.func95, by kernel_rfl, Try.ntmps95, by rw [Try.results95], by kernel_rfl⟩
def L100 : LCode :=
 (.seq
 (.ops [⟨(some 4), none, .mov (kc 0)⟩])
 (.seq
 (.ops [⟨(some 5), none, .mov (kc 0)⟩])
 (.seq
 (.block 0
 (.loop
 (.seq
 (.seq
 (.ops [⟨(some 6), none, .mov (tm 5)⟩,
 ⟨(some 7), none, .mov (tm 0)⟩,
 ⟨(some 8), none, .len false 29 3 (tm 7)⟩,
 ⟨(some 9), none, .bin .lss 3 (tm 6) (tm 8)⟩,
 ⟨(some 10), none, .mov (tm 9)⟩,
 ⟨(some 11), some (10, true), .mov (tm 0)⟩,
 ⟨(some 12), some (10, true), .mov (tm 5)⟩,
 ⟨(some 13), some (10, true), .iaddr 29 (tm 11) (tm 12) 1⟩,
 ⟨(some 14), some (10, true), .load 9 (tm 13) none⟩,
 ⟨(some 15), some (10, true), .mov (tm 1)⟩,
 ⟨(some 16), some (10, true), .bin .neq 9 (tm 14) (tm 15)⟩,
 ⟨(some 17), none, .pick (tm 10) (tm 16) (.const (.bool false))⟩])
 (.ite (tm 17)
 .skip
 (.exit 0)))
 (.block 1
 (.ops [⟨(some 18), none, .mov (tm 5)⟩,
 ⟨(some 19), none, .bin .add 3 (tm 18) (kc 1)⟩,
 ⟨(some 5), none, .mov (tm 19)⟩])))))
 (.seq
 (.seq
 (.ops [⟨(some 20), none, .mov (tm 5)⟩,
 ⟨(some 21), none, .mov (tm 0)⟩,
 ⟨(some 22), none, .len false 29 3 (tm 21)⟩,
 ⟨(some 23), none, .bin .eql 3 (tm 20) (tm 22)⟩])
 (.ite (tm 23)
 (.seq
 (.ops [⟨(some 4), none, .mov (kc (-1))⟩])
 .ret)
 .skip))
 (.seq
 (.ops [⟨(some 24), none, .mov (tm 5)⟩,
 ⟨(some 4), none, .mov (tm 24)⟩])
 .ret)))))
theorem fn100 : FnOK Try.prog 100 25 [.tmp 4] L100 := ⟨Try.f100, Try.func100, by kernel_rfl, Try.ntmps100, by rw [Try.results100], by kernel_rfl⟩
def L101 : LCode :=
 (.seq
 (.ops [⟨(some 2), none, .mov (.const (.bool false))⟩])
 (.seq
 (.ops [⟨(some 6), none, .mov (tm 0)⟩,
 ⟨(some 7), none, .len true 9 3 (tm 6)⟩,
 ⟨(some 8), none, .call 53 [(tm 7), (kc 1), (kc 16)] 4⟩,
 ⟨(some 3), none, .mov (tm 8)⟩])
 (.seq
 (.seq
 (.ops [⟨(some 4), none, .mov (kc 0)⟩])
 (.block 0
 (.loop
 (.seq
 (.seq
 (.ops [⟨(some 9), none, .mov (tm 4)⟩,
 ⟨(some 10), none, .mov (tm 0)⟩,
 ⟨(some 11), none, .len true 9 3 (tm 10)⟩,
 ⟨(some 12), none, .bin .lss 3 (tm 9) (tm 11)⟩])
 (.ite (tm 12)
 .skip
 (.exit 0)))
 (.seq
 (.block 1
 (.seq
 (.ops [⟨(some 15), none, .mov (tm 4)⟩,
 ⟨(some 16), none, .bin .gtr 3 (tm 15) (kc 0)⟩,
 ⟨(some 17), none, .mov (tm 16)⟩,
 ⟨(some 18), some (17, true), .mov (tm 0)⟩,
 ⟨(some 19), some (17, true), .mov (tm 4)⟩,
 ⟨(some 20), some (17, true), .indexS 9 (tm 18) (tm 19)⟩,
 ⟨(some 21), some (17, true), .bin .eql 5 (tm 20) (.const (.int .u8 46))⟩,
 ⟨(some 22), some (17, true), .mov (tm 21)⟩,
 ⟨(some 23), some (22, false), .mov (tm 0)⟩,
 ⟨(some 24), some (22, false), .mov (tm 4)⟩,
 ⟨(some 25), some (22, false), .indexS 9 (tm 23) (tm 24)⟩,
 ⟨(some 26), some (22, false), .toInt .i64 5 3 (tm 25)⟩,
 ⟨(some 27), some (22, false), .call 53 [(tm 26), (kc 48), (kc 57)] 4⟩,
 ⟨(some 28), some (17, true), .pick (tm 22) (.const (.bool true)) (tm 27)⟩,
 ⟨(some 29), none, .pick (tm 17) (tm 28) (.const (.bool false))⟩,
 ⟨(some 5), none, .mov (tm 29)⟩])
 (.ops [⟨(some 30), none, .mov (tm 3)⟩,
 ⟨(some 31), none, .mov (tm 30)⟩,
 ⟨(some 32), some (31, true), .mov (tm 0)⟩,
 ⟨(some 33), some (31, true), .mov (tm 4)⟩,
 ⟨(some 34), some (31, true), .indexS 9 (tm 32) (tm 33)⟩,
 ⟨(some 35), some (31, true), .toInt .i64 5 3 (tm 34)⟩,
 ⟨(some 36), some (31, true), .call 53 [(tm 35), (kc 97), (kc 122)] 4⟩,
 ⟨(some 37), some (31, true), .mov (tm 36)⟩,
 ⟨(some 38), some (37, false), .mov (tm 5)⟩,
 ⟨(some 39), some (31, true), .pick (tm 37) (.const (.bool true)) (tm 38)⟩,
 ⟨(some 40), none, .pick (tm 31) (tm 39) (.const (.bool false))⟩,
 ⟨(some 3), none, .mov (tm 40)⟩])))
 (.ops [⟨(some 13), none, .mov (tm 4)⟩,
 ⟨(some 14), none, .bin .add 3 (tm 13) (kc 1)⟩,
 ⟨(some 4), none, .mov (tm 14)⟩]))))))
 (.seq
 (.ops [⟨(some 41), none, .mov (tm 3)⟩,
 ⟨(some 2), none, .mov (tm 41)⟩])
 .ret))))
theorem fn101 : FnOK Try.prog 101 42 [.tmp 2] L101 := ⟨Try.f101, Try.func101, by kernel_rfl, Try.ntmps101, by rw [Try.results101], by kernel_rfl⟩
def L123 : LCode :=
 (.seq
 (.ops [⟨(some 2), none, .mov (.const (.bool false))⟩])
 (.seq
 (.seq
 (.ops [⟨(some 4), none, .mov (tm 0)⟩,
 ⟨(some 5), none, .len true 9 3 (tm 4)⟩,
 ⟨(some 6), none, .call 53 [(tm 5), (kc 1), (kc 8)] 4⟩,
 ⟨(some 7), none, .un .not (tm 6)⟩])
 (.ite (tm 7)
 (.seq
 (.ops [⟨(some 2), none, .mov (.const (.bool false))⟩])
 .ret)
 .skip))
 (.seq
 (.seq
 (.ops [⟨(some 3), none, .mov (kc 0)⟩])
 (.block 0
 (.loop
 (.seq
 (.seq
 (.ops [⟨(some 8), none, .mov (tm 3)⟩,
 ⟨(some 9), none, .mov (tm 0)⟩,
 ⟨(some 10), none, .len true 9 3 (tm 9)⟩,
 ⟨(some 11), none, .bin .lss 3 (tm 8) (tm 10)⟩])
 (.ite (tm 11)
 .skip
 (.exit 0)))
 (.seq
 (.block 1
 (.seq
 (.ops [⟨(some 14), none, .mov (tm 0)⟩,
 ⟨(some 15), none, .mov (tm 3)⟩,
 ⟨(some 16), none, .indexS 9 (tm 14) (tm 15)⟩,
 ⟨(some 17), none, .bin .lss 5 (tm 16) (.const (.int .u8 97))⟩,
 ⟨(some 18), none, .mov (tm 17)⟩,
 ⟨(some 19), some (18, false), .mov (tm 0)⟩,
 ⟨(some 20), some (18, false), .mov (tm 3)⟩,
 ⟨(some 21), some (18, false), .indexS 9 (tm 19) (tm 20)⟩,
 ⟨(some 22), some (18, false), .bin .gtr 5 (tm 21) (.const (.int .u8 122))⟩,
 ⟨(some 23), none, .pick (tm 18) (.const (.bool true)) (tm 22)⟩])
 (.ite (tm 23)
 (.seq
 (.ops [⟨(some 2), none, .mov (.const (.bool false))⟩])
 .ret)
 .skip)))
 (.ops [⟨(some 12), none, .mov (tm 3)⟩,
 ⟨(some 13), none, .bin .add 3 (tm 12) (kc 1)⟩,
 ⟨(some 3), none, .mov (tm 13)⟩]))))))
 (.seq
 (.ops [⟨(some 2), none, .mov (.const (.bool true))⟩])
 .ret))))
theorem fn123 : FnOK Try.prog 123 24 [.tmp 2] L123 := ⟨Try.f123, Try.func123, by kernel_rfl, Try.ntmps123, by rw [Try.results123], by kernel_rfl⟩
end Go.Px

namespace Go.Px
open Go.Proofs
theorem in_ev (n lo hi : Int) : Ev Try.prog 53 [I n, I lo, I hi] (B (decide (lo ≤ n) && decide (n ≤ hi))) := by
  refine Ev.intro fn53 ?_
  refine LWp.sx (gs := []) (hs := []) rfl trivial ?_
  by_cases h : lo ≤ n
  · refine LWp.sx (gs := [(10, true)]) (hs := []) rfl (by simp [h]) ?_
    refine LWp.ret (retT (.inr rfl) (.one (.tmp ?_ rfl)))
    show B _ = B _
    simp [h]
  · refine LWp.sx (gs := [(10, false)]) (hs := []) rfl (by simp [h]) ?_
    refine LWp.ret (retT (.inr rfl) (.one (.tmp ?_ rfl)))
    show B _ = B _
    simp [h]
theorem has_ev (l : List Int) (n : Int) : Ev Try.prog 46 [ints l, I n] (B (l.any (· == n))) := by
  refine Ev.intro fn46 ?_
  refine LWp.slLen 0 rfl fun ha => ?_
  simp only [List.length_map] at ha
  refine LWp.sx (gs := []) (hs := []) rfl trivial ?_
  refine LWp.sx (gs := []) (hs := []) rfl trivial ?_
  refine LWp.seq ?_
  refine LWp.sx (gs := []) (hs := []) rfl trivial ?_
  refine LWp.blockT (fun _ : Unit => True) (fun _ => el [(5, B (l.any (· == n)))]) (fun _ => []) (fun _ => []) ?_ ?_
  · refine LWp.loopN (fun k : Nat => k ≤ l.length) (fun k => el [(0, ints l), (1, I n), (5, B ((l.take k).any (· == n))), (6, I k)]) (fun _ => []) (fun _ => []) (fun k => l.length - k) 0 (by omega)
      (Ent.el ⟨rfl, rfl, rfl, rfl, trivial⟩) ?_
    intro k hk
    refine LWp.seq (LWp.seq ?_)
    refine LWp.x (gs := []) (hs := []) rfl trivial ?_
    refine LWp.ite rfl (fun hc => ?_) (fun hc => ?_)
    · simp only [List.length_map, decide_eq_true_eq, Int.ofNat_lt] at hc
      have hx : l[k]? = some l[k] := by simp
      refine LWp.skip (LWp.seq (LWp.block ?_))
      have ht : (l.take (k + 1)).any (· == n) = ((l.take k).any (· == n) || l[k] == n) := by
        rw [List.take_succ_eq_append_getElem hc, List.any_append]; simp
      cases hm : (l.take k).any (· == n) with
      | true =>
        rw [hm] at ht
        refine LWp.x (gs := [(14, true)]) (hs := []) rfl (by simp) ?_
        refine LWp.x (gs := []) (hs := []) rfl ⟨by omega, trivial⟩ ?_
        exact ⟨k + 1, hc, by omega, Ent.el ⟨rfl, rfl, by rw [ht]; rfl, rfl, trivial⟩⟩
      | false =>
        rw [hm] at ht
        refine LWp.x (gs := [(14, false)]) (hs := [.cells [I l[k]]]) rfl (by simp [hc]) ?_
        refine LWp.x (gs := []) (hs := []) rfl ⟨by omega, trivial⟩ ?_
        exact ⟨k + 1, hc, by omega, Ent.el ⟨rfl, rfl, by rw [ht]; rfl, rfl, trivial⟩⟩
    · simp only [List.length_map, decide_eq_false_iff_not, Int.ofNat_lt] at hc
      refine LWp.exit ⟨(), trivial, Ent.el ⟨?_, trivial⟩⟩
      show B _ = B _
      rw [List.take_of_length_le (by omega)]
  · intro _ _
    refine LWp.sx (gs := []) (hs := []) rfl trivial ?_
    refine LWp.ret (retT (.inr rfl) (.one (.tmp ?_ rfl)))
    rfl
end Go.Px

namespace Go.Px
open Go.Proofs
theorem inB_not (n lo hi : Int) : (!(decide (lo ≤ n) && decide (n ≤ hi))) = beyondB lo hi [n] := by
  rw [Bool.eq_iff_iff]; simp [beyondB]
theorem rname_ev (l : List UInt8) (hl : l.length ≤ 9223372036854775807) : Ev Try.prog 101 [Str l] (B (nameB l)) := by
  refine Ev.intro fn101 ?_
  refine LWp.sx (gs := []) (hs := []) rfl trivial ?_
  refine LWp.sx (gs := []) (hs := [.ret (B (decide (1 ≤ (l.length : Int)) && decide ((l.length : Int) ≤ 16)))]) rfl ⟨in_ev _ 1 16, trivial⟩ ?_
  refine LWp.seq (LWp.seq ?_)
  refine LWp.x (gs := []) (hs := []) rfl trivial ?_
  generalize hF : (decide (1 ≤ (l.length : Int)) && decide ((l.length : Int) ≤ 16)) = F
  have hnb : nameB l = (allN l 0 && F) := by
    unfold nameB
    rw [← hF]
    congr 1
    rw [Bool.eq_iff_iff]; simp; omega
  refine LWp.blockT (fun _ : Unit => True) (fun _ => el [(3, B (nameB l))]) (fun _ => []) (fun _ => []) ?_ ?_
  · refine LWp.loopN (X := Nat × Bool) (fun x => x.1 ≤ l.length ∧ nameB l = (allN (l.drop x.1) x.1 && x.2)) (fun x => el [(0, Str l), (3, B x.2), (4, I x.1)]) (fun _ => []) (fun _ => []) (fun x => l.length - x.1) (0, F) ⟨by simp, hnb⟩
      (Ent.el ⟨rfl, rfl, rfl, trivial⟩) ?_
    rintro ⟨k, f⟩ ⟨hk, hi⟩
    simp only at hk hi ⊢
    refine LWp.seq (LWp.seq ?_)
    refine LWp.x (gs := []) (hs := []) rfl trivial ?_
    refine LWp.ite rfl (fun hc => ?_) (fun hc => ?_)
    · simp only [decide_eq_true_eq] at hc
      have hc' : k < l.length := by have : ((k : Int) < (l.length : Int)) := hc; omega
      obtain ⟨c, hx⟩ := ex_get hc'
      rw [drop_cons hx, allN] at hi
      have hby : (⟨l.toArray⟩ : ByteArray).data.toList[((k : Nat) : Int).toNat]? = some c := by simpa using hx
      have hco : ∀ m : Int, IntKind.i64.wrap ((c.toNat : Nat) : Int) = c.toNat := by
        intro _
        exact i64_wrap (by omega) (by have := c.toNat_lt; omega)
      refine LWp.skip ?_
      refine LWp.blockX (fun _ : Unit => True) (fun _ => el [(0, Str l), (3, B (f && okc k c.toNat)), (4, I k)]) (fun _ => []) (fun _ => []) ?_ ?_
      · refine LWp.cutX (fun _ : Unit => True) (fun _ => el [(0, Str l), (3, B f), (4, I k), (5, B (decide (0 < k) && (c.toNat == 46 || (decide (48 ≤ c.toNat) && decide (c.toNat ≤ 57)))))]) (fun _ => []) (fun _ => []) ?_ ?_
        · by_cases h0 : 0 < k
          · by_cases h1 : c.toNat = 46
            · refine LWp.x (gs := [(17, true), (22, true)]) (hs := [.byte c]) rfl (by simp [h0, h1, hx]) ?_
              exact ⟨(), trivial, Ent.el ⟨rfl, rfl, rfl, by show B _ = B _; simp [h0, h1], trivial⟩⟩
            · have h1' : ¬ ((c.toNat : Int) = 46) := by omega
              refine LWp.x (gs := [(17, true), (22, false)]) (hs := [.byte c, .byte c, .ret (B (decide ((48 : Int) ≤ c.toNat) && decide ((c.toNat : Int) ≤ 57)))]) rfl (by simp [h0, h1', hx]; exact ⟨hco 0, in_ev _ 48 57⟩) ?_
              refine ⟨(), trivial, Ent.el ⟨rfl, rfl, rfl, ?_, trivial⟩⟩
              show B _ = B _
              have e : (decide ((48 : Int) ≤ c.toNat) && decide ((c.toNat : Int) ≤ 57)) = (decide (48 ≤ c.toNat) && decide (c.toNat ≤ 57)) := by rw [Bool.eq_iff_iff]; simp; omega
              rw [e]; simp [h0, h1]
          · have h0' : k = 0 := by omega
            subst h0'
            refine LWp.x (gs := [(17, false)]) (hs := []) rfl (by simp) ?_
            exact ⟨(), trivial, Ent.el ⟨rfl, rfl, rfl, by show B _ = B _; simp, trivial⟩⟩
        intro _ _
        generalize hg : (decide (0 < k) && (c.toNat == 46 || (decide (48 ≤ c.toNat) && decide (c.toNat ≤ 57)))) = g
        have hok : okc k c.toNat = ((decide (97 ≤ c.toNat) && decide (c.toNat ≤ 122)) || g) := by rw [← hg]; rfl
        cases f with
        | false =>
          refine LWp.x (gs := [(31, false)]) (hs := []) rfl (by simp) ?_
          exact ⟨(), trivial, Ent.el ⟨rfl, by show B _ = B _; simp, rfl, trivial⟩⟩
        | true =>
          have e : (decide ((97 : Int) ≤ c.toNat) && decide ((c.toNat : Int) ≤ 122)) = (decide (97 ≤ c.toNat) && decide (c.toNat ≤ 122)) := by rw [Bool.eq_iff_iff]; simp; omega
          rw [← e] at hok
          generalize hq : (decide ((97 : Int) ≤ c.toNat) && decide ((c.toNat : Int) ≤ 122)) = q at hok
          have hin : Ev Try.prog 53 [I c.toNat, I 97, I 122] (B q) := by rw [← hq]; exact in_ev _ 97 122
          cases q with
          | true =>
            refine LWp.x (gs := [(31, true), (37, true)]) (hs := [.byte c, .ret (B true)]) rfl (by simp [hx]; exact ⟨hco 0, hin⟩) ?_
            exact ⟨(), trivial, Ent.el ⟨rfl, by show B _ = B _; simp [hok], rfl, trivial⟩⟩
          | false =>
            refine LWp.x (gs := [(31, true), (37, false)]) (hs := [.byte c, .ret (B false)]) rfl (by simp [hx]; exact ⟨hco 0, hin⟩) ?_
            exact ⟨(), trivial, Ent.el ⟨rfl, by show B _ = B _; simp [hok], rfl, trivial⟩⟩
      intro _ _
      refine LWp.x (gs := []) (hs := []) rfl ⟨by omega, trivial⟩ ?_
      refine ⟨(k + 1, f && okc k c.toNat), ⟨hc', ?_⟩, by simp only; omega, Ent.el ⟨rfl, rfl, rfl, trivial⟩⟩
      rw [hi]
      cases f <;> cases okc k c.toNat <;> simp
    · simp only [decide_eq_false_iff_not] at hc
      have hc' : ¬ k < l.length := by have : ¬ ((k : Int) < (l.length : Int)) := hc; omega
      have hf : nameB l = f := by rw [hi, drop_nil hc']; simp [allN]
      exact LWp.exit ⟨(), trivial, Ent.el ⟨by rw [hf]; rfl, trivial⟩⟩
  · intro _ _
    refine LWp.sx (gs := []) (hs := []) rfl trivial ?_
    refine LWp.ret (retT (.inr rfl) (.one (.tmp ?_ rfl)))
    rfl
theorem where_ev (l : List (List UInt8)) (s : List UInt8) : Ev Try.prog 100 [strs l, Str s] (I (idxF (fun x => x == s) l 0)) := by
  refine Ev.intro fn100 ?_
  refine LWp.slLen 0 rfl fun ha => ?_
  simp only [List.length_map] at ha
  refine LWp.sx (gs := []) (hs := []) rfl trivial ?_
  refine LWp.sx (gs := []) (hs := []) rfl trivial ?_
  refine LWp.blockX (fun k : Nat => k ≤ l.length ∧ idxF (fun x => x == s) l 0 = if k = l.length then -1 else (k : Int)) (fun k => el [(0, strs l), (5, I k)]) (fun _ => []) (fun _ => []) ?_ ?_
  · refine LWp.loopN (fun k : Nat => k ≤ l.length ∧ idxF (fun x => x == s) l 0 = idxF (fun x => x == s) (l.drop k) k) (fun k => el [(0, strs l), (1, Str s), (5, I k)]) (fun _ => []) (fun _ => []) (fun k => l.length - k) 0 ⟨by omega, rfl⟩
      (Ent.el ⟨rfl, rfl, rfl, trivial⟩) ?_
    rintro k ⟨hk, hi⟩
    refine LWp.seq (LWp.seq ?_)
    by_cases hc : k < l.length
    · obtain ⟨x, hx⟩ := ex_get hc
      rw [drop_cons hx, idxF] at hi
      refine LWp.x (gs := [(10, true)]) (hs := [.cells [Str x]]) rfl (by simp [hc, (List.getElem?_eq_some_iff.1 hx).2]) ?_
      refine LWp.ite rfl (fun hb => ?_) (fun hb => ?_)
      · have hne : ¬ ((x == s) = true) := by
          have hb : (!((⟨x.toArray⟩ : ByteArray).toList == (⟨s.toArray⟩ : ByteArray).toList)) = true := hb
          intro h
          rw [eq_of_beq h] at hb
          simp at hb
        rw [if_neg hne] at hi
        refine LWp.skip (LWp.block ?_)
        refine LWp.x (gs := []) (hs := []) rfl ⟨by omega, trivial⟩ ?_
        exact ⟨k + 1, ⟨hc, hi⟩, by omega, Ent.el ⟨rfl, rfl, rfl, trivial⟩⟩
      · have heq : (x == s) = true := by
          have hb : (!((⟨x.toArray⟩ : ByteArray).toList == (⟨s.toArray⟩ : ByteArray).toList)) = false := hb
          simp at hb
          simpa using hb
        rw [if_pos heq] at hi
        exact LWp.exit ⟨k, ⟨hk, by rw [hi, if_neg (by omega)]⟩, Ent.el ⟨rfl, rfl, trivial⟩⟩
    · rw [drop_nil hc] at hi
      refine LWp.x (gs := [(10, false)]) (hs := []) rfl (by simp [hc]) ?_
      refine LWp.ite (b := false) rfl (fun hb => by cases hb) (fun hb => ?_)
      exact LWp.exit ⟨k, ⟨hk, by rw [hi, if_pos (by omega)]; rfl⟩, Ent.el ⟨rfl, rfl, trivial⟩⟩
  · rintro k ⟨hk, hi⟩
    refine LWp.seq (LWp.seq ?_)
    refine LWp.x (gs := []) (hs := []) rfl trivial ?_
    refine LWp.ite rfl (fun hb => ?_) (fun hb => ?_)
    · simp only [List.length_map, beq_iff_eq, Int.natCast_inj] at hb
      refine LWp.sx (gs := []) (hs := []) rfl trivial ?_
      refine LWp.ret (retT (.inr rfl) (.one (.tmp ?_ rfl)))
      rw [hi, if_pos hb]; rfl
    · simp only [List.length_map, beq_eq_false_iff_ne, ne_eq, Int.natCast_inj] at hb
      refine LWp.skip ?_
      refine LWp.sx (gs := []) (hs := []) rfl trivial ?_
      refine LWp.ret (retT (.inr rfl) (.one (.tmp ?_ rfl)))
      rw [hi, if_neg hb]; rfl
def freshE (s : List UInt8) (l : List (List UInt8)) : Int := if nameB s = true then (if l.any (fun x => x == s) = true then 5 else 0) else 6
theorem fresh_ev (s : List UInt8) (hl : s.length ≤ 9223372036854775807) (l : List (List UInt8)) : Ev Try.prog 62 [Str s, strs l] (I (freshE s l)) := by
  refine Ev.intro fn62 ?_
  refine LWp.sx (gs := []) (hs := []) rfl trivial ?_
  refine LWp.sx (gs := []) (hs := []) rfl trivial ?_
  refine LWp.cutX (fun _ : Unit => True) (fun _ => el [(0, Str s), (5, I (if l.any (fun x => x == s) = true then 5 else 0))]) (fun _ => []) (fun _ => []) ?_ ?_
  · refine LWp.sx (gs := []) (hs := [.ret (I (idxF (fun x => x == s) l 0))]) rfl ⟨where_ev l s, trivial⟩ ?_
    have hg := idxF_ge (fun x => x == s) l 0 (by omega)
    refine LWp.ite rfl (fun hb => ?_) (fun hb => ?_)
    · rw [hg] at hb
      refine LWp.x (gs := []) (hs := []) rfl trivial ?_
      exact ⟨(), trivial, Ent.el ⟨rfl, by rw [hb]; rfl, trivial⟩⟩
    · rw [hg] at hb
      exact LWp.skip ⟨(), trivial, Ent.el ⟨rfl, by rw [hb]; rfl, trivial⟩⟩
  intro _ _
  refine LWp.cutX (fun _ : Unit => True) (fun _ => el [(5, I (freshE s l))]) (fun _ => []) (fun _ => []) ?_ ?_
  · refine LWp.sx (gs := []) (hs := [.ret (B (nameB s))]) rfl ⟨rname_ev s hl, trivial⟩ ?_
    refine LWp.ite rfl (fun hb => ?_) (fun hb => ?_)
    · simp only [Bool.not_eq_true'] at hb
      refine LWp.x (gs := []) (hs := []) rfl trivial ?_
      exact ⟨(), trivial, Ent.el ⟨by simp only [freshE, hb, Bool.false_eq_true, if_false]; rfl, trivial⟩⟩
    · simp only [Bool.not_eq_false'] at hb
      exact LWp.skip ⟨(), trivial, Ent.el ⟨by simp only [freshE, hb, if_true]; rfl, trivial⟩⟩
  intro _ _
  refine LWp.sx (gs := []) (hs := []) rfl trivial ?_
  refine LWp.ret (retT (.inr rfl) (.one (.tmp ?_ rfl)))
  rfl
end Go.Px

namespace Go.Px
theorem minN_le : ∀ {l : List Nat} {a : Nat}, a ∈ l → minN l ≤ a
  | [b], a, h => by simp at h; subst h; exact Nat.le_refl _
  | b :: c :: l, a, h => by
    simp only [minN]
    rcases List.mem_cons.1 h with rfl | h
    · exact Nat.min_le_left ..
    · exact Nat.le_trans (Nat.min_le_right ..) (minN_le h)
theorem minN_mem : ∀ {l : List Nat}, l ≠ [] → minN l ∈ l
  | [b], _ => by simp [minN]
  | b :: c :: l, _ => by
    simp only [minN]
    have ih := minN_mem (l := c :: l) (by simp)
    rcases Nat.le_total b (minN (c :: l)) with h | h
    · rw [Nat.min_eq_left h]; simp
    · rw [Nat.min_eq_right h]; exact List.mem_cons_of_mem _ ih
  | [], h => absurd rfl h
end Go.Px

namespace Go.Px
theorem rooms_nn {ps : List Part} (h : ∀ p ∈ ps, PartV p) : RNN (roomsL ps) := fun r hr => (rooms_ok h r hr).1
theorem mends_le {ps : List Part} {l : List Wd} {m : List Nat} (hm : m ∈ cnts (roomsL ps)) : mendsF ps l ≤ far l (shapeF ps m) := minN_le (List.mem_map.2 ⟨m, hm, rfl⟩)
theorem mends_is {ps : List Part} (h : ∀ p ∈ ps, PartV p) (l : List Wd) : ∃ m ∈ cnts (roomsL ps), mendsF ps l = far l (shapeF ps m) := by
  have hne : (cnts (roomsL ps)).map (fun m => far l (shapeF ps m)) ≠ [] := by
    intro e
    exact form_cnts_ne h (List.map_eq_nil_iff.1 e)
  obtain ⟨m, h1, h2⟩ := List.mem_map.1 (minN_mem hne)
  exact ⟨m, h1, h2.symm⟩
theorem wider_shape {ps qs : List Part} (h : Wider ps qs) (m : List Nat) : shapeF qs m = shapeF ps m := by
  induction h generalizing m with
  | nil => rfl
  | @same p ps qs _ ih =>
    simp only [shapeF]
    split
    · rw [ih]
    · rw [ih]
  | @more p q ps qs h1 h2 _ _ _ _ ih =>
    have e1 : p.roomy = true := by simp [Part.roomy, h1]
    have e2 : q.roomy = true := by simp [Part.roomy, h2]
    simp only [shapeF, e1, e2, if_true, ih]
theorem wider_rooms {ps qs : List Part} (h : Wider ps qs) {m : List Nat} (hm : InR (roomsL ps) m) : InR (roomsL qs) m := by
  induction h generalizing m with
  | nil => exact hm
  | @same p ps qs _ ih =>
    rw [roomsL_cons] at hm ⊢
    split
    · rename_i hp
      rw [if_pos hp] at hm
      cases m with
      | nil => exact hm.elim
      | cons a m => exact ⟨hm.1, ih hm.2⟩
    · rename_i hp
      rw [if_neg hp] at hm
      exact ih hm
  | @more p q ps qs h1 h2 h3 h4 _ _ ih =>
    have e1 : p.roomy = true := by simp [Part.roomy, h1]
    have e2 : q.roomy = true := by simp [Part.roomy, h2]
    rw [roomsL_cons, if_pos e1] at hm
    rw [roomsL_cons, if_pos e2]
    cases m with
    | nil => exact hm.elim
    | cons a m => exact ⟨⟨by have := hm.1.1; simp only at this ⊢; omega, by have := hm.1.2; simp only at this ⊢; omega⟩, ih hm.2⟩
theorem wider_cnts {ps qs : List Part} (hp : ∀ p ∈ ps, PartV p) (hq : ∀ p ∈ qs, PartV p) (h : Wider ps qs) {m : List Nat} (hm : m ∈ cnts (roomsL ps)) : m ∈ cnts (roomsL qs) :=
  (cnts_iff (rooms_nn hq)).2 (wider_rooms h ((cnts_iff (rooms_nn hp)).1 hm))
theorem wider_ways {ps qs : List Part} (hp : ∀ p ∈ ps, PartV p) (hq : ∀ p ∈ qs, PartV p) (h : Wider ps qs) {l : List Wd} (hw : waysF ps l ≠ []) : waysF qs l ≠ [] := by
  obtain ⟨m, hm⟩ := List.exists_mem_of_ne_nil _ hw
  obtain ⟨h1, h2⟩ := List.mem_filter.1 hm
  exact List.ne_nil_of_mem (List.mem_filter.2 ⟨wider_cnts hp hq h h1, by rw [wider_shape h]; exact h2⟩)
theorem wider_mends {ps qs : List Part} (hp : ∀ p ∈ ps, PartV p) (hq : ∀ p ∈ qs, PartV p) (h : Wider ps qs) (l : List Wd) : mendsF qs l ≤ mendsF ps l := by
  obtain ⟨m, h1, h2⟩ := mends_is hp l
  rw [h2, ← wider_shape h]
  exact mends_le (wider_cnts hp hq h h1)
end Go.Px

namespace Go.Px
open Go.Proofs
section
variable {s : Shelf} (V : ShelfV s) {n : Nat} {f : Form} (hf : s.forms[n]? = some f)
include V hf
theorem formI_zero : formI s n = 0 := by
  have hlt := (List.getElem?_eq_some_iff.1 hf).1
  unfold formI
  rw [if_pos (shelf_iff.2 V), if_neg (by simp [beyondB]; omega)]
theorem partsOf_eq : partsOf s n = f.parts := by
  have _h := V
  unfold partsOf
  rw [Int.toNat_natCast, hf]
theorem form_v : FormV f := (V.forms f (List.mem_of_getElem? hf)).2
theorem ofL_has (l : List Wd) (i : Nat) {g : Form} (hg : s.forms[i]? = some g) : ((i : Int) ∈ ofL s.forms l) ↔ waysF g.parts l ≠ [] := by
  have _h := And.intro V hf
  unfold ofL
  simp only [List.mem_map, List.mem_filter, List.mem_range, decide_eq_true_eq]
  constructor
  · rintro ⟨j, ⟨h1, h2⟩, e⟩
    have : j = i := by omega
    subst this
    rw [hg] at h2
    exact h2
  · intro h
    exact ⟨i, ⟨(List.getElem?_eq_some_iff.1 hg).1, by rw [hg]; exact h⟩, rfl⟩
end
end Go.Px

namespace Go.Px
open Go.Proofs
/-- More room. -/
def widen (d e : Int) (p : Part) : Part := if p.roomy = true then ⟨p.words, max 0 (p.lo - d), min 3 (p.hi + e)⟩ else p
theorem widen_wider {d e : Int} (hd : 0 ≤ d) (he : 0 ≤ e) : ∀ {ps : List Part}, (∀ p ∈ ps, PartV p) → Wider ps (ps.map (widen d e))
  | [], _ => .nil
  | p :: ps, h => by
    have ih := widen_wider hd he (ps := ps) (fun q hq => h q (by simp [hq]))
    simp only [List.map_cons]
    unfold widen at ih ⊢
    by_cases hp : p.roomy = true
    · rw [if_pos hp]
      have hw : p.words = [] := by simpa [Part.roomy] using hp
      have hr : 0 ≤ p.lo ∧ p.lo ≤ p.hi ∧ 1 ≤ p.hi ∧ p.hi ≤ 3 := by
        rcases (h p (by simp)).room with ⟨g, _⟩ | ⟨_, g⟩
        · exact absurd hw g
        · exact g
      exact .more hw hw (by simp only; omega) (by simp only; omega) (by simp only; omega) ih
    · rw [if_neg hp]
      exact .same ih
theorem widen_valid {d e : Int} (hd : 0 ≤ d) (he : 0 ≤ e) {p : Part} (h : PartV p) : PartV (widen d e p) := by
  unfold widen
  by_cases hp : p.roomy = true
  · rw [if_pos hp]
    have hw : p.words = [] := by simpa [Part.roomy] using hp
    have hr : 0 ≤ p.lo ∧ p.lo ≤ p.hi ∧ 1 ≤ p.hi ∧ p.hi ≤ 3 := by
      rcases h.room with ⟨g, _⟩ | ⟨_, g⟩
      · exact absurd hw g
      · exact g
    exact ⟨h.w3, h.ok, .inr ⟨hw, by simp only; omega, by simp only; omega, by simp only; omega, by simp only; omega⟩⟩
  · rw [if_neg hp]; exact h
end Go.Px

namespace Go.Px
open Go.Proofs
theorem inB_of (n lo hi : Int) : (decide (lo ≤ n) && decide (n ≤ hi)) = !beyondB lo hi [n] := by
  rw [← inB_not]; simp
theorem rWord_ev (l : Wd) : Ev Try.prog 123 [Str l] (B (wordB l)) := by
  refine Ev.intro fn123 ?_
  refine LWp.sx (gs := []) (hs := []) rfl trivial ?_
  have hin := in_ev l.length 1 8
  rw [inB_of] at hin
  refine LWp.seq (LWp.seq ?_)
  refine LWp.x (gs := []) (hs := [.ret (B (!beyondB 1 8 [(l.length : Int)]))]) rfl ⟨hin, trivial⟩ ?_
  have hwe := wordB_eq l
  have hb8 : beyondB 1 8 [(l.length : Int)] = false → l.length ≤ 8 := fun h => by simp [beyondB] at h; omega
  generalize beyondB 1 8 [(l.length : Int)] = bb at hwe hb8
  refine LWp.ite rfl (fun h => ?_) (fun h => LWp.skip ?_)
  · have h : bb = true := by simpa using h
    refine LWp.sx (gs := []) (hs := []) rfl trivial ?_
    refine LWp.ret (retT (.inr rfl) (.one (.tmp ?_ rfl)))
    rw [hwe, h]; rfl
  · have h : bb = false := by simpa using h
    have hl8 := hb8 h
    rw [h, Bool.not_false, Bool.true_and] at hwe
    refine LWp.seq (LWp.seq ?_)
    refine LWp.x (gs := []) (hs := []) rfl trivial ?_
    refine LWp.blockT (fun _ : Unit => l.all (fun c => lowB c.toNat) = true) (fun _ => el []) (fun _ => []) (fun _ => []) ?_ ?_
    · refine LWp.loopN (fun k : Nat => k ≤ l.length ∧ l.all (fun c => lowB c.toNat) = (l.drop k).all (fun c => lowB c.toNat)) (fun k => el [(0, Str l), (3, I k)]) (fun _ => []) (fun _ => []) (fun k => l.length - k) 0 ⟨by omega, rfl⟩
        (Ent.el ⟨rfl, rfl, trivial⟩) ?_
      rintro k ⟨hk, hi⟩
      refine LWp.seq (LWp.seq ?_)
      refine LWp.x (gs := []) (hs := []) rfl trivial ?_
      refine LWp.ite rfl (fun hc => ?_) (fun hc => ?_)
      · have hc : k < l.length := by simpa [ByteArray.size] using hc
        obtain ⟨c, hcc⟩ := ex_get hc
        rw [drop_cons hcc, List.all_cons] at hi
        refine LWp.skip ?_
        refine LWp.blockX (fun _ : Unit => lowB c.toNat = true) (fun _ => el [(0, Str l), (3, I k)]) (fun _ => []) (fun _ => []) ?_ ?_
        · have hby : (⟨l.toArray⟩ : ByteArray).data.toList[((k : Nat) : Int).toNat]? = some c := by simpa using hcc
          refine LWp.seq ?_
          by_cases h1 : (c.toNat : Int) < 97
          · have g1 : decide ((c.toNat : Int) < 97) = true := decide_eq_true h1
            refine LWp.x (gs := [(18, true)]) (hs := [.byte c]) rfl (by (repeat' (with_reducible apply And.intro)); (all_goals try first | (with_reducible exact trivial) | (with_reducible rfl) | (with_reducible assumption) | ((with_reducible apply isB); first | exact rfl | exact beq_self_eq_true _)); exact (by omega)) ?_
            refine LWp.ite (b := true) rfl (fun _ => ?_) (fun h => by cases h)
            refine LWp.sx (gs := []) (hs := []) rfl trivial ?_
            refine LWp.ret (retT (.inr rfl) (.one (.tmp ?_ rfl)))
            have : lowB c.toNat = false := by simp [lowB]; omega
            rw [hwe, hi, this]; rfl
          · have g1 : decide ((c.toNat : Int) < 97) = false := decide_eq_false h1
            refine LWp.x (gs := [(18, false)]) (hs := [.byte c, .byte c]) rfl (by (repeat' (with_reducible apply And.intro)); (all_goals try first | (with_reducible exact trivial) | (with_reducible rfl) | (with_reducible assumption) | ((with_reducible apply isB); first | exact rfl | exact beq_self_eq_true _)); exact (by omega); exact (by omega)) ?_
            refine LWp.ite rfl (fun h2 => ?_) (fun h2 => LWp.skip ?_)
            · refine LWp.sx (gs := []) (hs := []) rfl trivial ?_
              refine LWp.ret (retT (.inr rfl) (.one (.tmp ?_ rfl)))
              have : lowB c.toNat = false := by simp at h2; simp [lowB]; omega
              rw [hwe, hi, this]; rfl
            · refine ⟨(), ?_, Ent.el ⟨rfl, rfl, trivial⟩⟩
              simp at h2; simp [lowB]; omega
        · intro _ hl
          refine LWp.x (gs := []) (hs := []) rfl ⟨by omega, trivial⟩ ?_
          exact ⟨k + 1, ⟨by omega, by rw [hi, hl, Bool.true_and]⟩, by omega, Ent.el ⟨rfl, rfl, trivial⟩⟩
      · have hc : ¬ k < l.length := by simpa [ByteArray.size] using hc
        refine LWp.exit ⟨(), ?_, Ent.el trivial⟩
        rw [hi, drop_nil hc]; rfl
    · intro _ hl
      refine LWp.sx (gs := []) (hs := []) rfl trivial ?_
      refine LWp.ret (retT (.inr rfl) (.one (.tmp ?_ rfl)))
      rw [hwe, hl]
      rfl
theorem rwords_ev (l : List Wd) : Ev Try.prog 95 [strs l] (B (wordsB l)) := by
  refine Ev.intro fn95 ?_
  refine LWp.slLen 0 rfl fun hll => ?_
  simp only [List.length_map] at hll
  refine LWp.sx (gs := []) (hs := []) rfl trivial ?_
  refine LWp.sx (gs := []) (hs := []) rfl trivial ?_
  refine LWp.seq (LWp.seq ?_)
  refine LWp.x (gs := []) (hs := []) rfl trivial ?_
  refine LWp.blockT (fun _ : Unit => True) (fun _ => el [(3, B (wordsB l))]) (fun _ => []) (fun _ => []) ?_ ?_
  · refine LWp.loopN (X := Nat × Bool) (fun x => x.1 ≤ l.length ∧ wordsB l = (x.2 && wordsB (l.drop x.1))) (fun x => el [(0, strs l), (3, B x.2), (4, I x.1)]) (fun _ => []) (fun _ => []) (fun x => l.length - x.1) (0, true) ⟨by simp, by simp⟩
      (Ent.el ⟨rfl, rfl, rfl, trivial⟩) ?_
    rintro ⟨k, f⟩ ⟨hk, hi⟩
    simp only at hk hi ⊢
    refine LWp.seq (LWp.seq ?_)
    refine LWp.x (gs := []) (hs := []) rfl trivial ?_
    refine LWp.ite rfl (fun hc => ?_) (fun hc => ?_)
    · simp only [List.length_map, decide_eq_true_eq, Int.ofNat_lt] at hc
      obtain ⟨s, hs⟩ := ex_get hc
      rw [drop_cons hs] at hi
      have hi : wordsB l = ((f && wordB s) && wordsB (l.drop (k + 1))) := by rw [hi, Bool.and_assoc]; rfl
      refine LWp.skip ?_
      refine LWp.blockX (fun _ : Unit => True) (fun _ => el [(0, strs l), (3, B (f && wordB s)), (4, I k)]) (fun _ => []) (fun _ => []) ?_ ?_
      · cases f with
        | false =>
          refine LWp.x (gs := [(12, false)]) (hs := []) rfl (by (repeat' (with_reducible apply And.intro)); (all_goals try first | (with_reducible exact trivial) | (with_reducible rfl) | (with_reducible assumption) | ((with_reducible apply isB); first | exact rfl | exact beq_self_eq_true _))) ?_
          exact ⟨(), trivial, Ent.el ⟨rfl, rfl, rfl, trivial⟩⟩
        | true =>
          refine LWp.x (gs := [(12, true)]) (hs := [.cells [Str s], .ret (B (wordB s))]) rfl (by (repeat' (with_reducible apply And.intro)); (all_goals try first | (with_reducible exact trivial) | (with_reducible rfl) | (with_reducible assumption) | ((with_reducible apply isB); first | exact rfl | exact beq_self_eq_true _)); exact (by omega); exact (by simp [hs]); exact rWord_ev s) ?_
          exact ⟨(), trivial, Ent.el ⟨rfl, rfl, rfl, trivial⟩⟩
      · intro _ _
        refine LWp.x (gs := []) (hs := []) rfl ⟨by omega, trivial⟩ ?_
        exact ⟨(k + 1, f && wordB s), ⟨by simp only; omega, hi⟩, by simp only; omega, Ent.el ⟨rfl, rfl, rfl, trivial⟩⟩
    · simp only [List.length_map, decide_eq_false_iff_not, Int.ofNat_lt] at hc
      refine LWp.exit ⟨(), trivial, Ent.el ⟨?_, trivial⟩⟩
      rw [hi, drop_nil hc]
      show B _ = B _
      simp [wordsB]
  · intro _ _
    refine LWp.sx (gs := []) (hs := []) rfl trivial ?_
    refine LWp.ret (retT (.inr rfl) (.one (.tmp ?_ rfl)))
    rfl
theorem rLetter_ev (l : List Wd) : Ev Try.prog 48 [strs l] (I (letterE l)) := by
  refine Ev.intro fn48 ?_
  refine LWp.sx (gs := []) (hs := []) rfl trivial ?_
  refine LWp.seq (LWp.seq ?_)
  refine LWp.x (gs := []) (hs := []) rfl trivial ?_
  refine LWp.ite rfl (fun h => ?_) (fun h => LWp.skip ?_)
  · have h : 15 < l.length := by simp at h; omega
    refine LWp.sx (gs := []) (hs := []) rfl trivial ?_
    refine LWp.ret (retT (.inr rfl) (.one (.tmp ?_ rfl)))
    show I _ = I _
    unfold letterE
    rw [if_pos h]
  · have h : ¬ 15 < l.length := by simp at h; omega
    refine LWp.seq (LWp.seq ?_)
    refine LWp.x (gs := []) (hs := [.ret (B (wordsB l))]) rfl ⟨rwords_ev l, trivial⟩ ?_
    refine LWp.ite rfl (fun hw => ?_) (fun hw => LWp.skip ?_)
    · have hw : wordsB l = false := by simpa using hw
      refine LWp.sx (gs := []) (hs := []) rfl trivial ?_
      refine LWp.ret (retT (.inr rfl) (.one (.tmp ?_ rfl)))
      show I _ = I _
      unfold letterE
      rw [if_neg h, if_neg (by simp [hw])]
    · have hw : wordsB l = true := by simpa using hw
      refine LWp.sx (gs := []) (hs := []) rfl trivial ?_
      refine LWp.ret (retT (.inr rfl) (.one (.tmp ?_ rfl)))
      show I _ = I _
      unfold letterE
      rw [if_neg h, if_pos hw]
theorem roomy_ev (p : Part) : Ev Try.prog 55 [.agg p.enc] (B p.roomy) := by
  refine Ev.intro fn55 ?_
  refine LWp.sx (gs := []) (hs := [.ice]) rfl ⟨⟨rfl, rfl⟩, trivial⟩ ?_
  refine LWp.sx (gs := []) (hs := []) rfl trivial ?_
  refine LWp.ret (retT (.inr rfl) (.one (.tmp ?_ rfl)))
  show B _ = B _
  congr 2
  unfold Part.roomy
  rw [Bool.eq_iff_iff]
  simp
end Go.Px

namespace Go.Px
open Go.Proofs
theorem rpart_ev (p : Part) (hw : p.wf) : Ev Try.prog 63 [.agg p.enc] (I (partE p)) := by
  have hlo := wf_i64 hw.lo0 hw.lo1
  have hhi := wf_i64 hw.hi0 hw.hi1
  have h00 := wf_i64 (n := 0) (by decide) (by decide)
  have hln : (p.words.map fun s => [Str s]).length = p.words.length := List.length_map _
  refine Ev.intro fn63 ?_
  unfold partE
  refine LWp.sx (gs := []) (hs := [.ice]) rfl ⟨⟨rfl, rfl⟩, trivial⟩ ?_
  refine LWp.seq (LWp.seq ?_)
  refine LWp.x (gs := []) (hs := []) rfl trivial ?_
  refine LWp.ite rfl (fun h => ?_) (fun h => LWp.skip ?_)
  · have h : 3 < p.words.length := by simp at h; omega
    rw [if_pos h]
    refine LWp.sx (gs := []) (hs := []) rfl trivial ?_
    refine LWp.ret (retT (.inr rfl) (.one (.tmp ?_ rfl)))
    rfl
  have h : ¬ 3 < p.words.length := by simp at h; omega
  rw [if_neg h]
  refine LWp.seq (LWp.seq ?_)
  refine LWp.x (gs := []) (hs := [.ret (B (wordsB p.words))]) rfl ⟨rwords_ev _, trivial⟩ ?_
  refine LWp.ite rfl (fun hws => ?_) (fun hws => LWp.skip ?_)
  · have hws : wordsB p.words = false := by simpa using hws
    rw [if_neg (by simp [hws])]
    refine LWp.sx (gs := []) (hs := []) rfl trivial ?_
    refine LWp.ret (retT (.inr rfl) (.one (.tmp ?_ rfl)))
    rfl
  have hws : wordsB p.words = true := by simpa using hws
  rw [if_pos hws]
  refine LWp.seq (LWp.seq ?_)
  refine LWp.x (gs := []) (hs := [.ret (B p.roomy)]) rfl ⟨roomy_ev p, trivial⟩ ?_
  refine LWp.ite rfl (fun hr => ?_) (fun hr => LWp.skip ?_)
  · have hr : p.words ≠ [] := by simpa [Part.roomy] using hr
    rw [if_pos hr]
    refine LWp.seq (LWp.seq ?_)
    refine LWp.x (gs := []) (hs := [.op (B (!decide (p.lo = 0 ∧ p.hi = 0)))]) rfl (by (repeat' (with_reducible apply And.intro)); (all_goals try first | (with_reducible exact trivial) | (with_reducible rfl) | (with_reducible assumption) | ((with_reducible apply isB); first | exact rfl | exact beq_self_eq_true _)); exact op_span (neg := true) hlo hhi h00 h00 rfl rfl) ?_
    refine LWp.ite rfl (fun h0 => ?_) (fun h0 => LWp.skip ?_)
    · have h0 : ¬ (p.lo = 0 ∧ p.hi = 0) := by intro e; simp [e.1, e.2] at h0
      rw [if_neg h0]
      refine LWp.sx (gs := []) (hs := []) rfl trivial ?_
      refine LWp.ret (retT (.inr rfl) (.one (.tmp ?_ rfl)))
      rfl
    · have h0 : p.lo = 0 ∧ p.hi = 0 := by simpa using h0
      rw [if_pos h0]
      refine LWp.sx (gs := []) (hs := []) rfl trivial ?_
      refine LWp.ret (retT (.inr rfl) (.one (.tmp ?_ rfl)))
      rfl
  have hr : ¬ p.words ≠ [] := by
    have : p.roomy = true := by simpa using hr
    simpa [Part.roomy] using this
  rw [if_neg hr]
  have e1 := in_ev p.lo 0 3
  have e2 := in_ev p.hi 1 3
  have hb : (beyondB 0 3 [p.lo, p.hi] || decide (p.hi = 0)) = (!(decide (0 ≤ p.lo) && decide (p.lo ≤ 3)) || !(decide (1 ≤ p.hi) && decide (p.hi ≤ 3))) := by
    rw [Bool.eq_iff_iff]; simp [beyondB]; omega
  rw [hb]
  generalize (decide (0 ≤ p.lo) && decide (p.lo ≤ 3)) = b1 at e1
  generalize (decide (1 ≤ p.hi) && decide (p.hi ≤ 3)) = b2 at e2
  refine LWp.seq (LWp.seq ?_)
  refine LWp.cutT (fun _ : Unit => True) (fun _ => el [(1, .pi p.enc), (29, B (!b1 || !b2))]) (fun _ => []) (fun _ => []) ?_ (fun _ _ => ?_)
  · cases b1 with
    | true =>
      refine LWp.x (gs := [(23, false)]) (hs := [.ret (B true), .ret (B b2)]) rfl (by (repeat' (with_reducible apply And.intro)); (all_goals try first | (with_reducible exact trivial) | (with_reducible rfl) | (with_reducible assumption) | ((with_reducible apply isB); first | exact rfl | exact beq_self_eq_true _)); exact e1; exact e2) ?_
      exact ⟨(), trivial, Ent.el ⟨rfl, rfl, trivial⟩⟩
    | false =>
      refine LWp.x (gs := [(23, true)]) (hs := [.ret (B false)]) rfl (by (repeat' (with_reducible apply And.intro)); (all_goals try first | (with_reducible exact trivial) | (with_reducible rfl) | (with_reducible assumption) | ((with_reducible apply isB); first | exact rfl | exact beq_self_eq_true _)); exact e1) ?_
      exact ⟨(), trivial, Ent.el ⟨rfl, rfl, trivial⟩⟩
  refine LWp.ite rfl (fun hq => ?_) (fun hq => LWp.skip ?_)
  · rw [if_pos hq]
    refine LWp.sx (gs := []) (hs := []) rfl trivial ?_
    refine LWp.ret (retT (.inr rfl) (.one (.tmp ?_ rfl)))
    rfl
  rw [if_neg (by simp [hq])]
  refine LWp.seq (LWp.seq ?_)
  refine LWp.x (gs := []) (hs := []) rfl trivial ?_
  refine LWp.ite rfl (fun h => ?_) (fun h => LWp.skip ?_)
  · have h : p.hi < p.lo := by simpa using h
    rw [if_pos h]
    refine LWp.sx (gs := []) (hs := []) rfl trivial ?_
    refine LWp.ret (retT (.inr rfl) (.one (.tmp ?_ rfl)))
    rfl
  · have h : ¬ p.hi < p.lo := by simpa using h
    rw [if_neg h]
    refine LWp.sx (gs := []) (hs := []) rfl trivial ?_
    refine LWp.ret (retT (.inr rfl) (.one (.tmp ?_ rfl)))
    rfl
end Go.Px

namespace Go.Px
open Go.Proofs
theorem rcheck_ev (s : Shelf) (hw : s.wf) : Ev Try.prog 17 [.agg s.enc] (.tup [I (checkS s).1, I (checkS s).2.1, I (checkS s).2.2]) := by
  refine Ev.intro fn17 ?_
  have hfl : (s.forms.map Form.enc).length = s.forms.length := List.length_map _
  have res : ∀ {env : Env} {H : Heap} {p q r : Int}, checkS s = (p, q, r) → env 2 = I p → env 3 = I q → env 4 = I r → retP Try.prog [.tmp 2, .tmp 3, .tmp 4] (.tup [I (checkS s).1, I (checkS s).2.1, I (checkS s).2.2]) .ret env H [] := by
    intro env H p q r h h2 h3 h4
    rw [h]
    exact retT (.inr rfl) (.many (by decide) ⟨.tmp h2 rfl, .tmp h3 rfl, .tmp h4 rfl, trivial⟩)
  refine LWp.sx (gs := []) (hs := [.ice]) rfl ⟨⟨rfl, rfl⟩, trivial⟩ ?_
  refine LWp.seq (LWp.seq ?_)
  refine LWp.x (gs := []) (hs := [.ret (B (decide (8 ≤ s.w) && decide (s.w ≤ 30)))]) rfl ⟨in_ev _ 8 30, trivial⟩ ?_
  refine LWp.ite rfl (fun hc => ?_) (fun hc => ?_)
  · rw [inB_not] at hc
    refine LWp.sx (gs := []) (hs := []) rfl trivial ?_
    exact LWp.ret (res (p := 1) (q := 0) (r := 7) (by simp only [checkS, hc, if_true]) rfl rfl rfl)
  rw [inB_not] at hc
  refine LWp.skip (LWp.seq (LWp.seq ?_))
  refine LWp.x (gs := []) (hs := []) rfl trivial ?_
  refine LWp.ite rfl (fun hd => ?_) (fun hd => ?_)
  · have hd : 4 < s.forms.length := by simp at hd; omega
    refine LWp.sx (gs := []) (hs := []) rfl trivial ?_
    exact LWp.ret (res (p := 2) (q := 0) (r := 3) (by simp only [checkS, hc, hd, if_true, if_false, Bool.false_eq_true]) rfl rfl rfl)
  have hd : ¬ 4 < s.forms.length := by simp at hd; omega
  refine LWp.skip ?_
  have hck : checkS s = if (failF (formE s.forms) s.forms.length 0).2 = 0 then (0, 0, 0) else (2, (failF (formE s.forms) s.forms.length 0).1, (failF (formE s.forms) s.forms.length 0).2) := by
    simp only [checkS, hc, hd, if_false, Bool.false_eq_true]
  refine LWp.sx (gs := []) (hs := []) rfl trivial ?_
  refine LWp.seq (LWp.seq ?_)
  refine LWp.x (gs := []) (hs := []) rfl trivial ?_
  refine LWp.blockT (fun _ : Unit => (failF (formE s.forms) s.forms.length 0).2 = 0) (fun _ => el []) (fun _ => []) (fun _ => []) ?_ ?_
  · refine LWp.loopN (fun k : Nat => k ≤ s.forms.length ∧ failF (formE s.forms) s.forms.length 0 = failF (formE s.forms) (s.forms.length - k) k) (fun k => el [(1, .pi s.enc), (5, .lin 9 1 (((s.forms.take k).map (·.name)).map fun s => [Str s])), (6, I k)]) (fun _ => []) (fun _ => []) (fun k => s.forms.length - k) 0 ⟨by omega, rfl⟩
      (Ent.trans (Ent.nilLin (t := 5) 9 1 rfl) (Ent.el ⟨rfl, rfl, rfl, trivial⟩)) ?_
    rintro k ⟨hk, hi⟩
    refine LWp.seq (LWp.seq ?_)
    refine LWp.x (gs := []) (hs := []) rfl trivial ?_
    refine LWp.ite rfl (fun he => ?_) (fun he => ?_)
    · simp only [List.length_map, decide_eq_true_eq, Int.ofNat_lt] at he
      obtain ⟨f, hf⟩ := ex_get he
      have hfw := hw.forms f (List.mem_of_getElem? hf)
      have hpl : (f.parts.map Part.enc).length = f.parts.length := List.length_map _
      rw [failF_step he] at hi
      have hfe : formE s.forms k = if freshE f.name ((s.forms.take k).map (·.name)) = 0 then (if 5 < f.parts.length then 3 else (failF (partsE f.parts) f.parts.length 0).2) else freshE f.name ((s.forms.take k).map (·.name)) := by
        simp only [formE, hf, freshE, List.any_map]
        by_cases g1 : nameB f.name = true
        · simp only [g1, if_true]
          have e : (s.forms.take k).any ((fun x => x == f.name) ∘ fun x => x.name) = (s.forms.take k).any (fun x => x.name == f.name) := rfl
          rw [e]
          by_cases g2 : (s.forms.take k).any (fun x => x.name == f.name) = true
          · simp [g2]
          · simp [g2]
        · simp [g1]
      refine LWp.skip ?_
      refine LWp.blockX (fun _ : Unit => formE s.forms k = 0) (fun _ => el [(1, .pi s.enc), (5, .lin 9 1 (((s.forms.take (k + 1)).map (·.name)).map fun s => [Str s])), (6, I k)]) (fun _ => []) (fun _ => []) ?_ ?_
      · generalize hnm : (s.forms.take k).map (·.name) = nm at hfe
        have hnl : nm.length ≤ 4 := by rw [← hnm]; simp; omega
        have hns : (s.forms.take (k + 1)).map (·.name) = nm ++ [f.name] := by
          rw [List.take_add_one, hf, List.map_append, hnm]; rfl
        rw [hns]
        refine LWp.sx (gs := []) (hs := [.cells f.enc, .lin]) rfl ⟨⟨by omega, by simp [hf]⟩, rfl, ⟨rfl, rfl, rfl, by decide⟩, trivial⟩ ?_
        refine LWp.ent (Ent.freezeLbox (t := 7) rfl) ?_
        refine LWp.peek 5 rfl (fun ad cap => ?_)
        refine LWp.sx (gs := []) (hs := [.retB [Str f.name, strs nm] (I (freshE f.name nm))]) rfl ⟨⟨fresh_ev f.name hfw.name nm, rfl, .refl _, .linV (u := 5) rfl rfl, trivial⟩, trivial⟩ ?_
        refine LWp.sx (gs := []) (hs := [.ice, .own 5]) rfl ⟨rfl, ⟨⟨rfl, rfl, rfl⟩, by simp [chunk]; omega, by simp [chunk]; omega⟩, trivial⟩ ?_
        generalize freshE f.name nm = e0 at hfe
        refine LWp.cutX (fun _ : Unit => True) (fun _ => el [(1, .pi s.enc), (5, .lin 9 1 ((nm ++ [f.name]).map fun s => [Str s])), (6, I k), (7, .pi f.enc), (8, I (if e0 = 0 then (if 5 < f.parts.length then 3 else 0) else e0))]) (fun _ => []) (fun _ => []) ?_ ?_
        · by_cases g : e0 = 0
          · subst g
            refine LWp.sx (gs := [(41, true)]) (hs := []) rfl (by simp) ?_
            refine LWp.ite rfl (fun h3 => ?_) (fun h3 => ?_)
            · have h3 : 5 < f.parts.length := by simp at h3; omega
              refine LWp.x (gs := []) (hs := []) rfl trivial ?_
              exact ⟨(), trivial, Ent.el ⟨rfl, by show AV.lin _ _ _ = _; rw [List.map_append]; rfl, rfl, rfl, by rw [if_pos rfl, if_pos h3]; rfl, trivial⟩⟩
            · have h3 : ¬ 5 < f.parts.length := by simp at h3; omega
              exact LWp.skip ⟨(), trivial, Ent.el ⟨rfl, by show AV.lin _ _ _ = _; rw [List.map_append]; rfl, rfl, rfl, by rw [if_pos rfl, if_neg h3]; rfl, trivial⟩⟩
          · have g1 : (e0 == 0) = false := by simpa using g
            refine LWp.sx (gs := [(41, false)]) (hs := []) rfl (by simp [g1]) ?_
            refine LWp.ite (b := false) rfl (fun h => by cases h) (fun _ => ?_)
            exact LWp.skip ⟨(), trivial, Ent.el ⟨rfl, by show AV.lin _ _ _ = _; rw [List.map_append]; rfl, rfl, rfl, by rw [if_neg g]; rfl, trivial⟩⟩
        intro _ _
        refine LWp.seq (LWp.seq ?_)
        refine LWp.x (gs := []) (hs := []) rfl trivial ?_
        refine LWp.blockT (fun _ : Unit => True) (fun _ => el [(1, .pi s.enc), (5, .lin 9 1 ((nm ++ [f.name]).map fun s => [Str s])), (6, I k), (7, .pi f.enc), (8, I (formE s.forms k))]) (fun _ => []) (fun _ => []) ?_ ?_
        · refine LWp.loopN (fun x : Nat × Int => x.1 ≤ f.parts.length ∧ (x.2 = 0 → f.parts.length ≤ 5) ∧ formE s.forms k = if x.2 = 0 then (failF (partsE f.parts) (f.parts.length - x.1) x.1).2 else x.2) (fun x => el [(1, .pi s.enc), (5, .lin 9 1 ((nm ++ [f.name]).map fun s => [Str s])), (6, I k), (7, .pi f.enc), (8, I x.2), (9, I x.1)]) (fun _ => []) (fun _ => []) (fun x => f.parts.length - x.1) (0, if e0 = 0 then (if 5 < f.parts.length then 3 else 0) else e0) ⟨by omega, ?_, ?_⟩
            (Ent.el ⟨rfl, rfl, rfl, rfl, rfl, rfl, trivial⟩) ?_
          · simp only
            by_cases g : e0 = 0
            · by_cases g3 : 5 < f.parts.length
              · simp [g, g3]
              · intro _; omega
            · simp [g]
          · show formE s.forms k = if (if e0 = 0 then (if 5 < f.parts.length then 3 else 0) else e0) = 0 then (failF (partsE f.parts) (f.parts.length - 0) 0).2 else (if e0 = 0 then (if 5 < f.parts.length then 3 else 0) else e0)
            rw [hfe]
            by_cases g : e0 = 0
            · by_cases g3 : 5 < f.parts.length
              · simp [g, g3]
              · simp [g, g3]
            · simp [g]
          rintro ⟨j, e⟩ ⟨hj, hf5, hji⟩
          simp only at hj hf5 hji
          by_cases hlt : j < f.parts.length
          · have g1 : decide ((j : Int) < ((f.parts.map Part.enc).length : Int)) = true := decide_eq_true (by rw [hpl]; omega)
            refine LWp.seq (LWp.seq ?_)
            refine LWp.x (gs := [(52, true)]) (hs := []) rfl (by (repeat' (with_reducible apply And.intro)); (all_goals try first | (with_reducible exact trivial) | (with_reducible rfl) | (with_reducible assumption) | ((with_reducible apply isB); first | exact rfl | exact beq_self_eq_true _))) ?_
            refine LWp.ite rfl (fun hz => ?_) (fun hz => ?_)
            · have hz : e = 0 := by simpa using hz
              subst hz
              rw [if_pos rfl] at hji
              have hf5 := hf5 rfl
              obtain ⟨p, hp⟩ := ex_get hlt
              have hpe : partsE f.parts j = partE p := by simp only [partsE, hp]
              have hpe2 := rpart_ev p (hfw.parts p (List.mem_of_getElem? hp))
              rw [failF_step hlt, hpe] at hji
              generalize partE p = e at hji hpe2
              refine LWp.skip (LWp.seq (LWp.block ?_))
              refine LWp.x (gs := []) (hs := [.cells p.enc, .ret (I e)]) rfl ⟨⟨by omega, by simp [hp]⟩, hpe2, trivial⟩ ?_
              refine LWp.x (gs := []) (hs := []) rfl ⟨by omega, trivial⟩ ?_
              refine ⟨(j + 1, e), ⟨by simp only; omega, fun _ => hf5, ?_⟩, by simp only; omega, Ent.el ⟨rfl, rfl, rfl, rfl, rfl, rfl, trivial⟩⟩
              simp only
              rw [hji]
              by_cases g : e = 0
              · rw [if_pos g, if_pos g]
              · rw [if_neg g, if_neg g]
            · have hz : ¬ e = 0 := by simpa using hz
              rw [if_neg hz] at hji
              exact LWp.exit ⟨(), trivial, Ent.el ⟨rfl, rfl, rfl, rfl, by rw [hji]; rfl, trivial⟩⟩
          · have g1 : decide ((j : Int) < ((f.parts.map Part.enc).length : Int)) = false := decide_eq_false (by rw [hpl]; omega)
            refine LWp.seq (LWp.seq ?_)
            refine LWp.x (gs := [(52, false)]) (hs := []) rfl (by (repeat' (with_reducible apply And.intro)); (all_goals try first | (with_reducible exact trivial) | (with_reducible rfl) | (with_reducible assumption) | ((with_reducible apply isB); first | exact rfl | exact beq_self_eq_true _))) ?_
            refine LWp.ite (b := false) rfl (fun h => by cases h) (fun _ => ?_)
            refine LWp.exit ⟨(), trivial, Ent.el ⟨rfl, rfl, rfl, rfl, ?_, trivial⟩⟩
            rw [hji]
            by_cases g : e = 0
            · rw [if_pos g, show f.parts.length - j = 0 by omega, g]; rfl
            · rw [if_neg g]; rfl
        intro _ _
        generalize formE s.forms k = e at hi
        refine LWp.seq ?_
        refine LWp.x (gs := []) (hs := []) rfl trivial ?_
        refine LWp.ite rfl (fun h4 => ?_) (fun h4 => ?_)
        · have h4 : e ≠ 0 := by simpa using h4
          rw [if_neg h4] at hi
          refine LWp.sx (gs := []) (hs := []) rfl trivial ?_
          exact LWp.ret (res (p := 2) (q := (k : Int)) (r := e) (by rw [hck, hi, if_neg h4]) rfl rfl rfl)
        · have h4 : e = 0 := by simpa using h4
          exact LWp.skip ⟨(), h4, Ent.el ⟨rfl, rfl, rfl, trivial⟩⟩
      · intro _ hz
        rw [if_pos hz] at hi
        refine LWp.x (gs := []) (hs := []) rfl ⟨by omega, trivial⟩ ?_
        exact ⟨k + 1, ⟨he, hi⟩, by omega, Ent.el ⟨rfl, rfl, rfl, trivial⟩⟩
    · simp only [List.length_map, decide_eq_false_iff_not, Int.ofNat_lt] at he
      refine LWp.exit ⟨(), ?_, Ent.el trivial⟩
      rw [hi, show s.forms.length - k = 0 by omega]; rfl
  · intro _ h0
    refine LWp.sx (gs := []) (hs := []) rfl trivial ?_
    exact LWp.ret (res (p := 0) (q := 0) (r := 0) (by rw [hck, if_pos h0]) rfl rfl rfl)
end Go.Px

namespace Go.Px
open Go.Proofs
theorem valid_ev (s : Shelf) (hw : s.wf) : Ev Try.prog 43 [.agg s.enc] (B ((checkS s).2.2 == 0)) := by
  have e := rcheck_ev s hw
  generalize (checkS s).1 = p at e
  generalize (checkS s).2.1 = q at e
  generalize (checkS s).2.2 = r at e
  refine Ev.intro fn43 ?_
  refine LWp.sx (gs := []) (hs := [.ice]) rfl ⟨⟨rfl, rfl⟩, trivial⟩ ?_
  refine LWp.sx (gs := []) (hs := [.ret (.tup [I p, I q, I r])]) rfl ⟨e, trivial⟩ ?_
  refine LWp.sx (gs := []) (hs := []) rfl trivial ?_
  refine LWp.ret (retT (.inr rfl) (.one (.tmp ?_ rfl)))
  rfl
def whichN (s : Shelf) (w : Int) : Nat := w.toNat % s.forms.length
theorem which_ev (s : Shelf) (w : Int) (h0 : 0 ≤ w) (h1 : w ≤ 255) (hne : s.forms ≠ []) (h4 : s.forms.length ≤ 4) : Ev Try.prog 44 [.agg s.enc, U w] (I (whichN s w : Nat)) := by
  have hfl : (s.forms.map Form.enc).length = s.forms.length := List.length_map _
  have hpos := List.length_pos_iff.2 hne
  refine Ev.intro fn44 ?_
  refine LWp.sx (gs := []) (hs := [.ice]) rfl ⟨⟨rfl, rfl⟩, trivial⟩ ?_
  refine LWp.sx (gs := []) (hs := []) rfl (by exact ⟨i64_wrap (by omega) (by omega), ⟨by omega, by rw [hfl]; omega⟩, trivial⟩) ?_
  refine LWp.ret (retT (.inr rfl) (.one (.tmp ?_ rfl)))
  show I (w % ((s.forms.map Form.enc).length : Int)) = I ((w.toNat % s.forms.length : Nat) : Int)
  rw [hfl, Int.natCast_emod, Int.toNat_of_nonneg h0]
end Go.Px

namespace Go.Px
open Go.Proofs
section
variable {s : Shelf} {l : List Wd}
def OkSL (s : Shelf) (l : List Wd) : Prop := (checkS s).2.2 = 0 ∧ s.forms ≠ [] ∧ letterE l = 0
theorem ofR_good (h : (checkS s).2.2 = 0) (hl : letterE l = 0) : ofR s l = (ofL s.forms l, 0) := by
  unfold ofR thenE
  rw [if_pos h, if_pos hl]
theorem mendR_good {i : Nat} {f : Form} (h : (checkS s).2.2 = 0) (hl : letterE l = 0) (hf : s.forms[i]? = some f) : mendR s i l = (((mendsF f.parts l : Nat) : Int), 0) := by
  have V := shelf_iff.1 h
  unfold mendR thenE
  rw [formI_zero V hf, if_pos rfl, if_pos hl, partsOf_eq V hf]
/-- A letter's corrections are few. -/
theorem mends_small {f : Form} (hv : FormV f) (h15 : l.length ≤ 15) : mendsF f.parts l ≤ 1000 := by
  obtain ⟨m, hm, e⟩ := mends_is hv.parts l
  have := far_le l (shapeF f.parts m)
  have := (shape_small hv hm).2.2
  omega
end
/-- Whether there are a shelf with forms, and a letter. -/
theorem ok_parts {c : Int} {n : Nat} {d : Int} (h : ¬ (c = 0 ∧ n ≠ 0 ∧ d = 0)) : ((c == 0) = false) ∨ ((c == 0) = true ∧ n = 0) ∨ ((c == 0) = true ∧ n ≠ 0 ∧ (d != 0) = true) := by
  by_cases h1 : c = 0
  · by_cases h2 : n = 0
    · exact .inr (.inl ⟨by rw [h1]; rfl, h2⟩)
    · exact .inr (.inr ⟨by rw [h1]; rfl, h2, by rw [bne_iff_ne]; exact fun h3 => h ⟨h1, h2, h3⟩⟩)
  · exact .inl (by rw [beq_eq_false_iff_ne]; exact h1)
end Go.Px

namespace Go.Px
open Go.Proofs
theorem whichN_get {s : Shelf} (hne : s.forms ≠ []) (w : Int) : ∃ f, s.forms[whichN s w]? = some f := by
  have := List.length_pos_iff.2 hne
  exact ex_get (Nat.mod_lt _ this)
end Go.Px

namespace Go.Px
open Go.Proofs
def wideF (d e : Int) (f : Form) : Form := ⟨f.name, f.parts.map (widen d e)⟩
def wideS (s : Shelf) (n : Nat) (d e : Int) (f : Form) : Shelf := ⟨s.w, s.forms.set n (wideF d e f)⟩
section
variable {s : Shelf} {n : Nat} {f : Form} {d e : Int} (V : ShelfV s) (hf : s.forms[n]? = some f) (hd : 0 ≤ d) (he : 0 ≤ e)
include V hf hd he
theorem wideF_valid : FormV (wideF d e f) := by
  have hv := form_v V hf
  refine ⟨by show (f.parts.map _).length ≤ 5; rw [List.length_map]; exact hv.p5, fun p hp => ?_⟩
  obtain ⟨q, hq, rfl⟩ := List.mem_map.1 (show p ∈ f.parts.map (widen d e) from hp)
  exact widen_valid hd he (hv.parts q hq)
theorem wideS_valid : ShelfV (wideS s n d e f) := by
  have hlt := (List.getElem?_eq_some_iff.1 hf).1
  have hge := (List.getElem?_eq_some_iff.1 hf).2
  refine ⟨V.w8, V.w30, by show (s.forms.set n _).length ≤ 4; rw [List.length_set]; exact V.f4, fun g hg => ?_, ?_⟩
  · rcases List.mem_or_eq_of_mem_set (show g ∈ s.forms.set n (wideF d e f) from hg) with h | h
    · exact V.forms g h
    · subst h
      exact ⟨(V.forms f (List.mem_of_getElem? hf)).1, wideF_valid V hf hd he⟩
  · have : (s.forms.set n (wideF d e f)).map (·.name) = s.forms.map (·.name) := by
      rw [List.map_set]
      apply List.ext_getElem?
      intro i
      rw [List.getElem?_set]
      split
      · rename_i h
        subst h
        rw [if_pos (by rw [List.length_map]; exact hlt), List.getElem?_map, hf]; rfl
      · rfl
    show ((s.forms.set n (wideF d e f)).map (·.name)).Nodup
    rw [this]; exact V.names
theorem wideS_get : (wideS s n d e f).forms[n]? = some (wideF d e f) := by
  have _h := And.intro V (And.intro hd he)
  have hlt := (List.getElem?_eq_some_iff.1 hf).1
  show (s.forms.set n (wideF d e f))[n]? = _
  rw [List.getElem?_set, if_pos rfl, if_pos hlt]
theorem wide_mends (l : List Wd) : mendsF (wideF d e f).parts l ≤ mendsF f.parts l :=
  wider_mends (form_v V hf).parts (wideF_valid V hf hd he).parts (widen_wider hd he (form_v V hf).parts) l
theorem wide_of (l : List Wd) {i : Int} (h : i ∈ ofL s.forms l) : (ofL (wideS s n d e f).forms l).any (· == i) = true := by
  have h2 := h
  unfold ofL at h2
  simp only [List.mem_map, List.mem_filter, List.mem_range] at h2
  obtain ⟨k, ⟨hk, _⟩, rfl⟩ := h2
  obtain ⟨g, hg⟩ := ex_get hk
  have hw := (ofL_has V hg l k hg).1 h
  have V2 := wideS_valid V hf hd he
  rw [List.any_eq_true]
  refine ⟨_, ?_, beq_self_eq_true _⟩
  by_cases e1 : k = n
  · subst e1
    rw [hf] at hg
    have e2 : f = g := Option.some.inj hg
    rw [← e2] at hw
    have hg2 := wideS_get V hf hd he
    exact (ofL_has V2 hg2 l k hg2).2 (wider_ways (form_v V hf).parts (wideF_valid V hf hd he).parts (widen_wider hd he (form_v V hf).parts) hw)
  · have hg2 : (wideS s n d e f).forms[k]? = some g := by
      show (s.forms.set n (wideF d e f))[k]? = _
      rw [List.getElem?_set, if_neg (fun h => e1 h.symm)]; exact hg
    exact (ofL_has V2 hg2 l k hg2).2 hw
end
theorem widen_wf {d e : Int} (hd : 0 ≤ d) (he : 0 ≤ e) {p : Part} (hp : PartV p) (hw : p.wf) : (widen d e p).wf := by
  have := widen_valid hd he hp
  refine ⟨?_, ?_, ?_, ?_, ?_⟩
  · unfold widen; split <;> exact hw.words
  all_goals
    rcases this.room with ⟨_, h1, h2⟩ | ⟨_, h1, h2, h3, h4⟩ <;> omega
theorem wideS_wf {s : Shelf} {n : Nat} {f : Form} {d e : Int} (V : ShelfV s) (hw : s.wf) (hf : s.forms[n]? = some f) (hd : 0 ≤ d) (he : 0 ≤ e) : (wideS s n d e f).wf := by
  refine ⟨hw.w0, hw.w1, fun g hg => ?_⟩
  rcases List.mem_or_eq_of_mem_set (show g ∈ s.forms.set n (wideF d e f) from hg) with h | h
  · exact hw.forms g h
  · subst h
    have hff := hw.forms f (List.mem_of_getElem? hf)
    refine ⟨hff.name, fun p hp => ?_⟩
    obtain ⟨q, hq, rfl⟩ := List.mem_map.1 (show p ∈ f.parts.map (widen d e) from hp)
    exact widen_wf hd he ((form_v V hf).parts q hq) (hff.parts q hq)
theorem mendR_bad {s : Shelf} {l : List Wd} (h : ¬ OkSL s l) : ∃ r, r ≠ 0 ∧ mendR s 0 l = (0, r) := by
  have hE : thenE (formI s 0) l ≠ 0 := by
    unfold thenE
    by_cases hf : formI s 0 = 0
    · rw [if_pos hf]
      intro hl
      obtain ⟨c0, _, _, _, _, f, hf2, _⟩ := formI_iff hf
      exact h ⟨c0, (fun e => by rw [e] at hf2; simp at hf2), hl⟩
    · rw [if_neg hf]; exact hf
  exact ⟨_, hE, by unfold mendR; rw [if_neg hE]⟩
/-- What the parts are, when so many were widened. -/
def partsAt (d e : Int) (ps : List Part) (i : Nat) : List Part := (ps.take i).map (widen d e) ++ ps.drop i
theorem partsAt_end (d e : Int) (ps : List Part) : partsAt d e ps ps.length = ps.map (widen d e) := by simp [partsAt]
theorem partsAt_len (d e : Int) (ps : List Part) (i : Nat) : (partsAt d e ps i).length = ps.length := by
  simp [partsAt]; omega
theorem partsAt_get {d e : Int} {ps : List Part} {i : Nat} {p : Part} (h : ps[i]? = some p) : (partsAt d e ps i)[i]? = some p := by
  have hlt := (List.getElem?_eq_some_iff.1 h).1
  unfold partsAt
  rw [List.getElem?_append_right (by simp; omega), List.length_map, List.length_take, Nat.min_eq_left (by omega), Nat.sub_self, List.getElem?_drop]
  simpa using h
theorem partsAt_set {d e : Int} {ps : List Part} {i : Nat} {p : Part} (h : ps[i]? = some p) : (partsAt d e ps i).set i (widen d e p) = partsAt d e ps (i + 1) := by
  have hlt := (List.getElem?_eq_some_iff.1 h).1
  unfold partsAt
  rw [List.set_append_right _ _ (by simp; omega), List.length_map, List.length_take, Nat.min_eq_left (by omega), Nat.sub_self, drop_cons h, take_snoc h, List.map_append]
  simp
end Go.Px

namespace Go.Px
open Go.Proofs
section
variable {P : Program} {r : Option Nat} {N : Nat} {Q : Post} {env : Env} {H : Heap} {D : List Nat}
/-- A cut behind two statements. -/
theorem LWp.cut2 {Y : Type} {A B C : LCode} (Iv : Y → Prop) (E : Y → Env) (Hh : Y → Heap) (Dd : Y → List Nat)
    (h : LWp P r N A (thenP (fun e h d => LWp P r N B (thenP (fun e h d => ∃ j, Iv j ∧ Ent e h d (E j) (Hh j) (Dd j)) Q) e h d) Q) env H D)
    (k : ∀ j, Iv j → LWp P r N C Q (E j) (Hh j) (Dd j)) : LWp P r N (.seq A (.seq B C)) Q env H D :=
  LWp.seq (LWp.mono h (by
    intro e env' H' D' hq
    cases e with
    | normal => exact LWp.cutX Iv E Hh Dd hq k
    | _ => exact hq))
end
set_option maxRecDepth 20000 in
set_option maxHeartbeats 2000000 in
theorem letterRoom_ev (s : Shelf) (hw : s.wf) (l : List Wd) (u0 u1 u2 : Int) (h0 : 0 ≤ u0) (h0' : u0 ≤ 255) (h1 : 0 ≤ u1) (h1' : u1 ≤ 255) (h2 : 0 ≤ u2) (h2' : u2 ≤ 255) : Ev Try.prog 15 [.agg s.enc, strs l, .agg [U u0, U u1, U u2]] (B true) := by
  have hfl : (s.forms.map Form.enc).length = s.forms.length := List.length_map _
  have ev := valid_ev s hw
  have el1 := rLetter_ev l
  refine Ev.intro fn15 ?_
  by_cases h : OkSL s l
  case neg =>
    obtain ⟨r, hr, e⟩ := mendR_bad h
    have e1 := mend_ev s hw 0 l
    rw [e] at e1
    have hp := ok_parts (c := (checkS s).2.2) (n := s.forms.length) (d := letterE l) (fun g => h ⟨g.1, fun e => g.2.1 (by rw [e]; rfl), g.2.2⟩)
    generalize (checkS s).2.2 = c at ev hp
    generalize letterE l = d at el1 hp
    have g1 : (r != 0) = true := by rw [bne_iff_ne]; exact hr
    refine LWp.sx (gs := []) (hs := [.ice, .ice]) rfl ⟨⟨rfl, rfl⟩, ⟨rfl, rfl⟩, trivial⟩ ?_
    refine LWp.seq (LWp.cutX (fun _ : Unit => True) (fun _ => el [(1, strs l), (3, .pi s.enc), (36, B true)]) (fun _ => []) (fun _ => []) ?_ ?_)
    · rcases hp with k0 | ⟨k0, k1⟩ | ⟨k0, k1, k2⟩
      · rw [k0] at ev
        refine LWp.x (gs := [(26, true), (32, true)]) (hs := [.ret (B false)]) rfl (by (repeat' (with_reducible apply And.intro)); (all_goals first | (with_reducible exact trivial) | (with_reducible rfl) | (with_reducible assumption) | ((with_reducible apply isB); first | exact rfl | exact beq_self_eq_true _) | omega | ((first | exact ev)))) ?_
        exact ⟨(), trivial, Ent.el ⟨rfl, rfl, rfl, trivial⟩⟩
      · rw [k0] at ev
        have k3 : (((s.forms.map Form.enc).length : Int) == 0) = true := by rw [beq_iff_eq]; omega
        refine LWp.x (gs := [(26, false), (32, true)]) (hs := [.ret (B true)]) rfl (by (repeat' (with_reducible apply And.intro)); (all_goals first | (with_reducible exact trivial) | (with_reducible rfl) | (with_reducible assumption) | ((with_reducible apply isB); first | exact rfl | exact beq_self_eq_true _) | omega | ((first | exact ev)))) ?_
        exact ⟨(), trivial, Ent.el ⟨rfl, rfl, rfl, trivial⟩⟩
      · rw [k0] at ev
        have k3 : (((s.forms.map Form.enc).length : Int) == 0) = false := by rw [beq_eq_false_iff_ne]; omega
        refine LWp.x (gs := [(26, false), (32, false)]) (hs := [.ret (B true), .ret (I d)]) rfl (by (repeat' (with_reducible apply And.intro)); (all_goals first | (with_reducible exact trivial) | (with_reducible rfl) | (with_reducible assumption) | ((with_reducible apply isB); first | exact rfl | exact beq_self_eq_true _) | omega | ((first | exact ev | exact el1)))) ?_
        exact ⟨(), trivial, Ent.el ⟨rfl, rfl, by show B _ = B _; exact congrArg B k2, trivial⟩⟩
    intro _ _
    refine LWp.ite (b := true) rfl (fun _ => ?_) (fun h => by cases h)
    refine LWp.sx (gs := []) (hs := [.ret (.tup [I 0, I r])]) rfl ⟨e1, trivial⟩ ?_
    refine LWp.sx (gs := [(45, true)]) (hs := [.ret (B true)]) rfl (by (repeat' (with_reducible apply And.intro)); (all_goals first | (with_reducible exact trivial) | (with_reducible rfl) | (with_reducible assumption) | ((with_reducible apply isB); first | exact rfl | exact beq_self_eq_true _) | omega | ((first | exact awake_ev)))) ?_
    refine LWp.ret (retT (.inr rfl) (.one (.tmp ?_ rfl)))
    rfl
  obtain ⟨c0, hne, hl0⟩ := h
  have V := shelf_iff.1 c0
  have hf4 := V.f4
  have hpos := List.length_pos_iff.2 hne
  have ewh := which_ev s u0 h0 h0' hne hf4
  obtain ⟨f, hf⟩ := whichN_get hne u0
  generalize whichN s u0 = n at ewh hf
  have hnl := (List.getElem?_eq_some_iff.1 hf).1
  have hv := form_v V hf
  have hp5 := hv.p5
  have hd : 0 ≤ u1 % 3 := by omega
  have he : 0 ≤ u2 % 3 := by omega
  have V2 := wideS_valid V hf hd he
  have w2 := wideS_wf V hw hf hd he
  have c2 := shelf_iff.2 V2
  have e1 := of_ev s hw l
  rw [ofR_good c0 hl0] at e1
  have e2 := of_ev (wideS s n (u1 % 3) (u2 % 3) f) w2 l
  rw [ofR_good c2 hl0] at e2
  have e3 := mend_ev s hw n l
  rw [mendR_good c0 hl0 hf] at e3
  have e4 := mend_ev (wideS s n (u1 % 3) (u2 % 3) f) w2 n l
  rw [mendR_good c2 hl0 (wideS_get V hf hd he)] at e4
  have hle := wide_mends V hf hd he l
  have hhas : ∀ i ∈ ofL s.forms l, Ev Try.prog 46 [ints (ofL (wideS s n (u1 % 3) (u2 % 3) f).forms l), I i] (B true) := by
    intro i hi
    have := has_ev (ofL (wideS s n (u1 % 3) (u2 % 3) f).forms l) i
    rw [wide_of V hf hd he l hi] at this; exact this
  have hol : (ofL s.forms l).length ≤ 4 := by
    unfold ofL
    rw [List.length_map]
    exact Nat.le_trans (List.length_filter_le _ _) (by rw [List.length_range]; exact hf4)
  have hfset : (s.forms.map Form.enc).set n (wideF (u1 % 3) (u2 % 3) f).enc = (wideS s n (u1 % 3) (u2 % 3) f).forms.map Form.enc := by
    show _ = (s.forms.set n _).map Form.enc
    rw [List.map_set]
  have hwfe : (wideF (u1 % 3) (u2 % 3) f).enc = [Str f.name, partsV (f.parts.map (widen (u1 % 3) (u2 % 3)))] := rfl
  have hs2 : (wideS s n (u1 % 3) (u2 % 3) f).enc = [I s.w, formsV (wideS s n (u1 % 3) (u2 % 3) f).forms] := rfl
  have hs2l : ((wideS s n (u1 % 3) (u2 % 3) f).forms.map Form.enc).length = (s.forms.map Form.enc).length := by
    rw [← hfset, List.length_set]
  rw [c0] at ev
  rw [hl0] at el1
  have hfg : (s.forms.map Form.enc)[(n : Int).toNat]? = some f.enc := by rw [Int.toNat_natCast, List.getElem?_map, hf]; rfl
  have hpl : (f.parts.map Part.enc).length = f.parts.length := List.length_map _
  have k3 : (((s.forms.map Form.enc).length : Int) == 0) = false := by rw [beq_eq_false_iff_ne]; omega
  refine LWp.sx (gs := []) (hs := [.ice, .ice]) rfl ⟨⟨rfl, rfl⟩, ⟨rfl, rfl⟩, trivial⟩ ?_
  refine LWp.seq (LWp.seq ?_)
  refine LWp.x (gs := [(26, false), (32, false)]) (hs := [.ret (B true), .ret (I 0)]) rfl (by (repeat' (with_reducible apply And.intro)); (all_goals first | (with_reducible exact trivial) | (with_reducible rfl) | (with_reducible assumption) | ((with_reducible apply isB); first | exact rfl | exact beq_self_eq_true _) | omega | ((first | exact ev | exact el1)))) ?_
  refine LWp.ite (b := false) rfl (fun h => by cases h) (fun _ => LWp.skip ?_)
  refine LWp.sx (gs := []) (hs := [.ret (I n)]) rfl ⟨⟨by omega, by decide⟩, ewh, trivial⟩ ?_
  refine LWp.sx (gs := []) (hs := [.lin]) rfl ⟨rfl, ⟨rfl, rfl, rfl, by decide⟩, trivial⟩ ?_
  refine LWp.seq (LWp.ops ?_)
  refine WOps.shareB (t := 10) rfl (fun b10 => ?_)
  refine WOps.xn (gs := []) (hs := [.lin]) 4 rfl rfl ⟨rfl, ⟨by show (0 + (s.forms.map Form.enc).length) * 40 ≤ _; rw [hfl]; omega, by show 0 + (s.forms.map Form.enc).length ≤ _; rw [hfl]; omega⟩, trivial⟩ ?_
  refine WOps.ent (Ent.el (l := [(1, strs l), (3, .pi s.enc), (5, .pi [U u0, U u1, U u2]), (9, I n), (10, .po b10 0), (56, .lin 64 2 (s.forms.map Form.enc))]) ⟨rfl, rfl, rfl, rfl, rfl, rfl, trivial⟩) ?_
  refine WOps.share (t := 56) rfl (fun h => absurd (show s.forms.map Form.enc = [] from h) (by intro e; exact hne (List.map_eq_nil_iff.1 e))) (fun bF capF => ?_)
  refine WOps.hd (gs := []) (hs := [.stO 1]) rfl ⟨⟨rfl, rfl, rfl, rfl, Nat.le_refl 2⟩, trivial⟩ ?_
  refine LWp.ent (Ent.trans (Ent.ofH (H' := [(bF, .arr 64 2 capF (s.forms.map Form.enc)), (b10, .cells 24 [I s.w, .so bF (s.forms.map Form.enc).length capF])]) rfl) (Ent.el (l := [(1, strs l), (3, .pi s.enc), (5, .pi [U u0, U u1, U u2]), (9, I n), (10, .po b10 0)]) ⟨rfl, rfl, rfl, rfl, rfl, trivial⟩)) ?_
  refine LWp.sx (gs := []) (hs := [.at 1, .elt 0 n 0 f.enc, .lin]) rfl (by exact ⟨rfl, ⟨by omega, by rw [hfl]; omega⟩, ⟨rfl, by simp, hfg⟩, rfl, ⟨rfl, rfl, rfl, by decide⟩, trivial⟩) ?_
  refine LWp.shareB (t := 11) rfl (fun b11 => ?_)
  refine LWp.cut2 (fun _ : Unit => True) (fun _ => el [(1, strs l), (3, .pi s.enc), (5, .pi [U u0, U u1, U u2]), (9, I n), (10, .po b10 0), (11, .po b11 0)])
    (fun _ => [(b11, .cells 64 [Str f.name, partsV (f.parts.map (widen (u1 % 3) (u2 % 3)))]), (bF, .arr 64 2 capF (s.forms.map Form.enc)), (b10, .cells 24 [I s.w, .so bF (s.forms.map Form.enc).length capF])]) (fun _ => []) ?_ (fun _ _ => ?_)
  · refine LWp.ops ?_
    refine WOps.xn (gs := []) (hs := [.lin, .at 0]) 4 rfl rfl ⟨rfl, rfl, ⟨by show (0 + (f.parts.map Part.enc).length) * 40 ≤ _; rw [hpl]; omega, by show 0 + (f.parts.map Part.enc).length ≤ _; rw [hpl]; omega⟩, trivial⟩ ?_
    refine WOps.ent (Ent.el (l := [(1, strs l), (3, .pi s.enc), (5, .pi [U u0, U u1, U u2]), (9, I n), (10, .po b10 0), (11, .po b11 0), (66, .lin 84 3 (f.parts.map Part.enc))]) ⟨rfl, rfl, rfl, rfl, rfl, rfl, rfl, trivial⟩) ?_
    refine WOps.share (t := 66) rfl (fun hemp => ?_) (fun bP capP => ?_)
    · have hpe : f.parts = [] := List.map_eq_nil_iff.1 (show f.parts.map Part.enc = [] from hemp)
      rw [hpe]
      refine WOps.hd (gs := []) (hs := [.stO 0]) rfl ⟨⟨rfl, rfl, rfl, rfl, Nat.le_refl 2⟩, trivial⟩ ?_
      refine LWp.ent (Ent.trans (Ent.cellsSub (j := 0) [Str f.name, partsV []] rfl ⟨SubA.refl _, SubA.nil 3, trivial⟩) (Ent.trans (Ent.ofH (H' := [(b11, .cells 64 [Str f.name, partsV []]), (bF, .arr 64 2 capF (s.forms.map Form.enc)), (b10, .cells 24 [I s.w, .so bF (s.forms.map Form.enc).length capF])]) rfl) (Ent.el (l := [(1, strs l), (3, .pi s.enc), (5, .pi [U u0, U u1, U u2]), (9, I n), (10, .po b10 0), (11, .po b11 0)]) ⟨rfl, rfl, rfl, rfl, rfl, rfl, trivial⟩))) ?_
      refine LWp.seq ?_
      refine LWp.x (gs := []) (hs := []) rfl trivial ?_
      refine LWp.block ?_
      refine LWp.loopN (fun k : Nat => k = 0) (fun k => el [(1, strs l), (3, .pi s.enc), (5, .pi [U u0, U u1, U u2]), (9, I n), (10, .po b10 0), (11, .po b11 0), (12, I k)]) (fun _ => [(b11, .cells 64 [Str f.name, partsV []]), (bF, .arr 64 2 capF (s.forms.map Form.enc)), (b10, .cells 24 [I s.w, .so bF (s.forms.map Form.enc).length capF])]) (fun _ => []) (fun _ => 0) 0 rfl
        (Ent.el ⟨rfl, rfl, rfl, rfl, rfl, rfl, rfl, trivial⟩) ?_
      rintro k rfl
      refine LWp.seq (LWp.seq ?_)
      refine LWp.x (gs := []) (hs := [.at 0]) rfl ⟨rfl, trivial⟩ ?_
      refine LWp.ite (b := false) rfl (fun h => by cases h) (fun _ => ?_)
      exact LWp.exit ⟨(), trivial, Ent.el ⟨rfl, rfl, rfl, rfl, rfl, rfl, trivial⟩⟩
    · refine WOps.hd (gs := []) (hs := [.stO 1]) rfl ⟨⟨rfl, rfl, rfl, rfl, Nat.le_refl 2⟩, trivial⟩ ?_
      refine LWp.ent (Ent.trans (Ent.ofH (H' := [(bP, .arr 84 3 capP ((partsAt (u1 % 3) (u2 % 3) f.parts 0).map Part.enc)), (b11, .cells 64 [Str f.name, .so bP (f.parts.map Part.enc).length capP]), (bF, .arr 64 2 capF (s.forms.map Form.enc)), (b10, .cells 24 [I s.w, .so bF (s.forms.map Form.enc).length capF])]) rfl) (Ent.el (l := [(1, strs l), (3, .pi s.enc), (5, .pi [U u0, U u1, U u2]), (9, I n), (10, .po b10 0), (11, .po b11 0)]) ⟨rfl, rfl, rfl, rfl, rfl, rfl, trivial⟩)) ?_
      refine LWp.seq ?_
      refine LWp.x (gs := []) (hs := []) rfl trivial ?_
      refine LWp.block ?_
      refine LWp.loopN (fun k : Nat => k ≤ f.parts.length) (fun k => el [(1, strs l), (3, .pi s.enc), (5, .pi [U u0, U u1, U u2]), (9, I n), (10, .po b10 0), (11, .po b11 0), (12, I k)]) (fun k => [(bP, .arr 84 3 capP ((partsAt (u1 % 3) (u2 % 3) f.parts k).map Part.enc)), (b11, .cells 64 [Str f.name, .so bP (f.parts.map Part.enc).length capP]), (bF, .arr 64 2 capF (s.forms.map Form.enc)), (b10, .cells 24 [I s.w, .so bF (s.forms.map Form.enc).length capF])]) (fun _ => []) (fun k => f.parts.length - k) 0 (Nat.zero_le _)
        (Ent.el ⟨rfl, rfl, rfl, rfl, rfl, rfl, rfl, trivial⟩) ?_
      intro k hk
      refine LWp.seq (LWp.seq ?_)
      refine LWp.x (gs := []) (hs := [.at 1]) rfl ⟨rfl, trivial⟩ ?_
      refine LWp.ite rfl (fun hc => ?_) (fun hc => ?_)
      · have hc : k < f.parts.length := by
          have := of_decide_eq_true hc
          rw [hpl] at this; omega
        obtain ⟨p, hp⟩ := ex_get hc
        have hpv := hv.parts p (List.mem_of_getElem? hp)
        have hpa : ((partsAt (u1 % 3) (u2 % 3) f.parts k).map Part.enc)[(k : Int).toNat]? = some p.enc := by rw [Int.toNat_natCast, List.getElem?_map, partsAt_get hp]; rfl
        have hpa2 : ((partsAt (u1 % 3) (u2 % 3) f.parts k).map Part.enc)[k]? = some p.enc := by rw [List.getElem?_map, partsAt_get hp]; rfl
        have hpal : ((partsAt (u1 % 3) (u2 % 3) f.parts k).map Part.enc).length = (f.parts.map Part.enc).length := by rw [List.length_map, partsAt_len, hpl]
        have hset : ((partsAt (u1 % 3) (u2 % 3) f.parts k).map Part.enc).set k (widen (u1 % 3) (u2 % 3) p).enc = (partsAt (u1 % 3) (u2 % 3) f.parts (k + 1)).map Part.enc := by
          rw [← partsAt_set hp, List.map_set]
        have hro := roomy_ev p
        refine LWp.skip ?_
        refine LWp.blockX (fun _ : Unit => True) (fun _ => el [(1, strs l), (3, .pi s.enc), (5, .pi [U u0, U u1, U u2]), (9, I n), (10, .po b10 0), (11, .po b11 0), (12, I k)]) (fun _ => [(bP, .arr 84 3 capP ((partsAt (u1 % 3) (u2 % 3) f.parts (k + 1)).map Part.enc)), (b11, .cells 64 [Str f.name, .so bP (f.parts.map Part.enc).length capP]), (bF, .arr 64 2 capF (s.forms.map Form.enc)), (b10, .cells 24 [I s.w, .so bF (s.forms.map Form.enc).length capF])]) (fun _ => []) ?_ ?_
        · rw [← hset]
          generalize (partsAt (u1 % 3) (u2 % 3) f.parts k).map Part.enc = PE at hpa hpa2 hpal
          refine LWp.sx (gs := []) (hs := [.at 1, .elt 0 k 0 p.enc, .lin]) rfl (by exact ⟨rfl, ⟨by omega, by rw [hpl]; omega⟩, ⟨rfl, by simp, hpa⟩, rfl, ⟨rfl, rfl, rfl, by decide⟩, trivial⟩) ?_
          refine LWp.shareB (t := 13) rfl (fun b13 => ?_)
          refine LWp.ent (Ent.el (l := [(1, strs l), (3, .pi s.enc), (5, .pi [U u0, U u1, U u2]), (9, I n), (10, .po b10 0), (11, .po b11 0), (12, I k), (13, .po b13 0)]) ⟨rfl, rfl, rfl, rfl, rfl, rfl, rfl, rfl, trivial⟩) ?_
          refine LWp.cutX (fun _ : Unit => True) (fun _ => el [(1, strs l), (3, .pi s.enc), (5, .pi [U u0, U u1, U u2]), (9, I n), (10, .po b10 0), (11, .po b11 0), (12, I k), (13, .po b13 0)]) (fun _ => [(b13, .cells 84 (widen (u1 % 3) (u2 % 3) p).enc), (bP, .arr 84 3 capP PE), (b11, .cells 64 [Str f.name, .so bP (f.parts.map Part.enc).length capP]), (bF, .arr 64 2 capF (s.forms.map Form.enc)), (b10, .cells 24 [I s.w, .so bF (s.forms.map Form.enc).length capF])]) (fun _ => []) ?_ ?_
          · refine LWp.seq ?_
            refine LWp.x (gs := []) (hs := [.at 0, .ret (B p.roomy)]) rfl ⟨rfl, hro, trivial⟩ ?_
            by_cases hpr : p.roomy = true
            · have hwd : widen (u1 % 3) (u2 % 3) p = ⟨p.words, max 0 (p.lo - u1 % 3), min 3 (p.hi + u2 % 3)⟩ := by unfold widen; rw [if_pos hpr]
              have hpw : p.words = [] := by simpa [Part.roomy] using hpr
              have hrr : 0 ≤ p.lo ∧ p.lo ≤ p.hi ∧ 1 ≤ p.hi ∧ p.hi ≤ 3 := by
                rcases hpv.room with ⟨g, _⟩ | ⟨_, g⟩
                · exact absurd hpw g
                · exact g
              have hsp := span_ev (max 0 (p.lo - u1 % 3)) (min 3 (p.hi + u2 % 3))
              have j1 := i64_wrap (n := u1) (by omega) (by omega)
              have j2 := i64_wrap (n := u2) (by omega) (by omega)
              rw [hwd]
              refine LWp.ite (b := true) (by show B _ = B _; exact congrArg B hpr) (fun _ => ?_) (fun h => by cases h)
              refine LWp.ops ?_
              refine WOps.xn (gs := []) (hs := [.at 0, .at 0, .ret (.agg [I (max 0 (p.lo - u1 % 3)), I (min 3 (p.hi + u2 % 3))])]) 19 rfl rfl ⟨rfl, ⟨by omega, by decide⟩, j1, ⟨h1, by omega⟩, ⟨by omega, by omega⟩, rfl, ⟨by omega, by decide⟩, j2, ⟨h2, by omega⟩, ⟨by omega, by omega⟩, hsp, trivial⟩ ?_
              refine WOps.hd (gs := []) (hs := [.stO 0]) rfl ⟨⟨rfl, rfl, rfl, rfl, Nat.le_refl 3⟩, trivial⟩ ?_
              exact ⟨(), trivial, Ent.el ⟨rfl, rfl, rfl, rfl, rfl, rfl, rfl, rfl, trivial⟩⟩
            · have hwd : widen (u1 % 3) (u2 % 3) p = p := by unfold widen; rw [if_neg hpr]
              rw [hwd]
              refine LWp.ite (b := false) (by show B _ = B _; exact congrArg B (by simpa using hpr)) (fun h => by cases h) (fun _ => LWp.skip ?_)
              exact ⟨(), trivial, Ent.el ⟨rfl, rfl, rfl, rfl, rfl, rfl, rfl, rfl, trivial⟩⟩
          intro _ _
          refine LWp.ent (Ent.freezeBox (t := 13) (i := 0) rfl rfl) ?_
          refine LWp.hx (gs := []) (hs := [.at 1, .stE 0 k 0 p.enc]) rfl (by exact ⟨rfl, ⟨by omega, by rw [hpl]; omega⟩, ⟨rfl, by simp, hpa2, rfl, rfl, rfl, Nat.le_refl 3⟩, trivial⟩) ?_
          exact ⟨(), trivial, Ent.el ⟨rfl, rfl, rfl, rfl, rfl, rfl, rfl, trivial⟩⟩
        intro _ _
        refine LWp.x (gs := []) (hs := []) rfl ⟨by omega, trivial⟩ ?_
        exact ⟨k + 1, by omega, by omega, Ent.el ⟨rfl, rfl, rfl, rfl, rfl, rfl, rfl, trivial⟩⟩
      · have hc : ¬ k < f.parts.length := by
          have := of_decide_eq_false hc
          rw [hpl] at this; omega
        have : k = f.parts.length := by omega
        subst this
        have hwl : ((f.parts.map (widen (u1 % 3) (u2 % 3))).map Part.enc).length = (f.parts.map Part.enc).length := by simp
        exact LWp.exit ⟨(), trivial, Ent.trans (Ent.ofH (H' := [(bP, .arr 84 3 capP ((f.parts.map (widen (u1 % 3) (u2 % 3))).map Part.enc)), (b11, .cells 64 [Str f.name, .so bP ((f.parts.map (widen (u1 % 3) (u2 % 3))).map Part.enc).length capP]), (bF, .arr 64 2 capF (s.forms.map Form.enc)), (b10, .cells 24 [I s.w, .so bF (s.forms.map Form.enc).length capF])]) (by rw [partsAt_end, hwl])) (Ent.trans (Ent.freezeArrAt (i := 0) (j := 0) [Str f.name, partsV (f.parts.map (widen (u1 % 3) (u2 % 3)))] rfl rfl ⟨.inl rfl, .inr ⟨rfl, rfl⟩, trivial⟩) (Ent.el ⟨rfl, rfl, rfl, rfl, rfl, rfl, trivial⟩))⟩
  refine LWp.shx (gs := []) (hs := [.at 2, .at 0, .stE 1 n 0 f.enc]) rfl (by exact ⟨rfl, rfl, ⟨by omega, by rw [hfl]; omega⟩, ⟨rfl, by simp, by rw [List.getElem?_map, hf]; rfl, rfl, rfl, rfl, Nat.le_refl 2⟩, trivial⟩) ?_
  refine LWp.ent (Ent.trans (Ent.ofH (H' := [(b11, .cells 64 [Str f.name, partsV (f.parts.map (widen (u1 % 3) (u2 % 3)))]), (bF, .arr 64 2 capF ((wideS s n (u1 % 3) (u2 % 3) f).forms.map Form.enc)), (b10, .cells 24 [I s.w, .so bF ((wideS s n (u1 % 3) (u2 % 3) f).forms.map Form.enc).length capF])]) (by rw [hs2l, ← hfset]; rfl))
    (Ent.trans (Ent.freezeArrAt (i := 1) (j := 1) [I s.w, formsV (wideS s n (u1 % 3) (u2 % 3) f).forms] rfl rfl ⟨.inl rfl, .inr ⟨rfl, rfl⟩, trivial⟩)
    (Ent.trans (Ent.freezeBox (t := 10) (i := 1) rfl rfl) (Ent.trans (Ent.dropH 0) (Ent.el (l := [(1, strs l), (3, .pi s.enc), (9, I n), (10, .pi (wideS s n (u1 % 3) (u2 % 3) f).enc)]) ⟨rfl, rfl, rfl, rfl, trivial⟩))))) ?_
  have hm1 := mends_small hv (letter_zero.1 hl0).1
  have hm2 := mends_small (wideF_valid V hf hd he) (letter_zero.1 hl0).1
  generalize ofL (wideS s n (u1 % 3) (u2 % 3) f).forms l = O2 at e2 hhas
  generalize wideS s n (u1 % 3) (u2 % 3) f = s2 at e2 e4 ⊢
  generalize ofL s.forms l = O1 at e1 hhas hol
  generalize mendsF (wideF (u1 % 3) (u2 % 3) f).parts l = M2 at e4 hle hm2
  generalize mendsF f.parts l = M1 at e3 hle hm1
  refine LWp.sx (gs := []) (hs := [.ret (.tup [ints O1, I 0])]) rfl ⟨e1, trivial⟩ ?_
  refine LWp.sx (gs := []) (hs := [.ret (.tup [ints O2, I 0])]) rfl ⟨e2, trivial⟩ ?_
  refine LWp.sx (gs := []) (hs := [.ret (.tup [I M1, I 0])]) rfl ⟨e3, trivial⟩ ?_
  refine LWp.sx (gs := []) (hs := [.ret (.tup [I M2, I 0])]) rfl ⟨e4, trivial⟩ ?_
  refine LWp.seq (LWp.seq ?_)
  refine LWp.x (gs := [(140, false), (144, false), (148, false), (152, false)]) (hs := []) rfl (by (repeat' (with_reducible apply And.intro)); (all_goals try first | (with_reducible exact trivial) | (with_reducible rfl) | (with_reducible assumption) | ((with_reducible apply isB); first | exact rfl | exact beq_self_eq_true _))) ?_
  refine LWp.ite (b := false) (by show B _ = B _; exact congrArg B (decide_eq_false (by omega))) (fun h => by cases h) (fun _ => LWp.skip ?_)
  have hO1 : (O1.map fun x => [I x]).length = O1.length := List.length_map _
  refine LWp.seq (LWp.seq ?_)
  refine LWp.x (gs := []) (hs := []) rfl trivial ?_
  refine LWp.blockT (fun _ : Unit => True) (fun _ => el []) (fun _ => []) (fun _ => []) ?_ ?_
  · refine LWp.loopN (fun k : Nat => k ≤ O1.length) (fun k => el [(14, ints O1), (16, ints O2), (22, I k)]) (fun _ => []) (fun _ => []) (fun k => O1.length - k) 0 (Nat.zero_le _)
      (Ent.el ⟨rfl, rfl, rfl, trivial⟩) ?_
    intro k hk
    refine LWp.seq (LWp.seq ?_)
    refine LWp.x (gs := []) (hs := []) rfl trivial ?_
    refine LWp.ite rfl (fun hc => ?_) (fun hc => ?_)
    · simp only [List.length_map, decide_eq_true_eq, Int.ofNat_lt] at hc
      obtain ⟨i, hi⟩ := ex_get hc
      have hh := hhas i (List.mem_of_getElem? hi)
      refine LWp.skip ?_
      refine LWp.blockX (fun _ : Unit => True) (fun _ => el [(14, ints O1), (16, ints O2), (22, I k)]) (fun _ => []) (fun _ => []) ?_ ?_
      · refine LWp.seq ?_
        refine LWp.x (gs := []) (hs := [.cells [I i], .ret (B true)]) rfl ⟨⟨by omega, by simp [hi]⟩, hh, trivial⟩ ?_
        refine LWp.ite (b := false) rfl (fun h => by cases h) (fun _ => LWp.skip ?_)
        exact ⟨(), trivial, Ent.el ⟨rfl, rfl, rfl, trivial⟩⟩
      intro _ _
      refine LWp.x (gs := []) (hs := []) rfl ⟨by omega, trivial⟩ ?_
      exact ⟨k + 1, by omega, by omega, Ent.el ⟨rfl, rfl, rfl, trivial⟩⟩
    · exact LWp.exit ⟨(), trivial, Ent.el trivial⟩
  intro _ _
  refine LWp.sx (gs := []) (hs := [.ret (B true)]) rfl ⟨awake_ev, trivial⟩ ?_
  refine LWp.ret (retT (.inr rfl) (.one (.tmp ?_ rfl)))
  rfl
end Go.Px

namespace Go.Px
open Go.Proofs Go.Proofs.Ytbplgdbdpdhipaa
open Go.ChangeShapes Go.WideShapes Go.ChangeAt Go.RowKit
theorem fits_u3 (a : AV) (h : FitA (.arr 3 (.int .u8)) a) : ∃ i j k : Int, 0 ≤ i ∧ i ≤ 255 ∧ 0 ≤ j ∧ j ≤ 255 ∧ 0 ≤ k ∧ k ≤ 255 ∧ a = .agg [U i, U j, U k] := by
  simp only [FitA, FitN, Fits] at h
  obtain ⟨_, rfl, _, _, rfl, ⟨i, rfl, hi⟩, _, _, rfl, ⟨j, rfl, hj⟩, _, _, rfl, ⟨k, rfl, hk⟩, rfl⟩ := h
  have := bounds_u8 hi
  have := bounds_u8 hj
  have := bounds_u8 hk
  exact ⟨i, j, k, by omega, by omega, by omega, by omega, by omega, by omega, rfl⟩
end Go.Px

