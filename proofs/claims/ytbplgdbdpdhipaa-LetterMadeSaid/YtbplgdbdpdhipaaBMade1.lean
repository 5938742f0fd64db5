/- Part 1 of the proof of the statement LetterMade (contracts of the functions that it alone wants). No conditions. -/
import Derived.Test.YtbplgdbdpdhipaaA7
import Derived.Test.YtbplgdbdpdhipaaChecked
import Derived.KernelRfl
namespace Go.Px
open Go.Proofs
set_option maxRecDepth 100000
def L9 : LCode :=
 (.seq
 (.ops [⟨(some 3), none, .box 24 (tm 0)⟩,
 ⟨(some 6), none, .mov (.const (.bool false))⟩])
 (.seq
 (.seq
 (.ops [⟨(some 24), none, .load 24 (tm 3) (some 2)⟩,
 ⟨(some 25), none, .call 43 [(tm 24)] 4⟩,
 ⟨(some 26), none, .un .not (tm 25)⟩,
 ⟨(some 27), none, .mov (tm 26)⟩,
 ⟨(some 28), some (27, false), .faddr 24 (tm 3) 1 1⟩,
 ⟨(some 29), some (27, false), .load 22 (tm 28) none⟩,
 ⟨(some 30), some (27, false), .len false 22 3 (tm 29)⟩,
 ⟨(some 31), some (27, false), .bin .eql 3 (tm 30) (kc 0)⟩,
 ⟨(some 32), none, .pick (tm 27) (.const (.bool true)) (tm 31)⟩])
 (.ite (tm 32)
 (.seq
 (.ops [⟨(some 34), none, .load 24 (tm 3) (some 2)⟩,
 ⟨(some 35), none, .call 25 [(tm 34), (kc 0), (.const (.slice none 0 0))] 39⟩,
 ⟨(some 33), none, .mov (tm 35)⟩,
 ⟨(some 36), none, .extract (tm 33) 0⟩,
 ⟨(some 37), none, .extract (tm 33) 1⟩,
 ⟨(some 38), none, .extract (tm 33) 2⟩,
 ⟨(some 7), none, .mov (tm 36)⟩,
 ⟨(some 8), none, .mov (tm 37)⟩,
 ⟨(some 9), none, .mov (tm 38)⟩])
 (.seq
 (.ops [⟨(some 39), none, .mov (tm 9)⟩,
 ⟨(some 40), none, .bin .neq 26 (tm 39) (kc 0)⟩,
 ⟨(some 41), none, .mov (tm 40)⟩,
 ⟨(some 42), some (41, true), .call 21 [] 4⟩,
 ⟨(some 43), none, .pick (tm 41) (tm 42) (.const (.bool false))⟩,
 ⟨(some 6), none, .mov (tm 43)⟩])
 .ret))
 .skip))
 (.seq
 (.ops [⟨(some 44), none, .load 24 (tm 3) (some 2)⟩,
 ⟨(some 45), none, .mov (tm 1)⟩,
 ⟨(some 46), none, .call 44 [(tm 44), (tm 45)] 3⟩,
 ⟨(some 10), none, .mov (tm 46)⟩])
 (.seq
 (.ops [⟨(some 47), none, .faddr 24 (tm 3) 1 1⟩,
 ⟨(some 48), none, .load 22 (tm 47) none⟩,
 ⟨(some 49), none, .mov (tm 10)⟩,
 ⟨(some 50), none, .iaddr 22 (tm 48) (tm 49) 2⟩,
 ⟨(some 51), none, .load 64 (tm 50) (some 2)⟩,
 ⟨(some 52), none, .mov (tm 2)⟩,
 ⟨(some 53), none, .call 45 [(tm 51), (tm 52)] 25⟩,
 ⟨(some 11), none, .mov (tm 53)⟩])
 (.seq
 (.ops [⟨(some 55), none, .load 24 (tm 3) (some 2)⟩,
 ⟨(some 56), none, .mov (tm 10)⟩,
 ⟨(some 57), none, .mov (tm 11)⟩,
 ⟨(some 58), none, .call 18 [(tm 55), (tm 56), (tm 57)] 30⟩,
 ⟨(some 54), none, .mov (tm 58)⟩,
 ⟨(some 59), none, .extract (tm 54) 0⟩,
 ⟨(some 60), none, .extract (tm 54) 1⟩,
 ⟨(some 12), none, .mov (tm 59)⟩,
 ⟨(some 13), none, .mov (tm 60)⟩])
 (.seq
 (.ops [⟨(some 62), none, .load 24 (tm 3) (some 2)⟩,
 ⟨(some 63), none, .mov (tm 12)⟩,
 ⟨(some 64), none, .call 22 [(tm 62), (tm 63)] 36⟩,
 ⟨(some 61), none, .mov (tm 64)⟩,
 ⟨(some 65), none, .extract (tm 61) 0⟩,
 ⟨(some 66), none, .extract (tm 61) 1⟩,
 ⟨(some 14), none, .mov (tm 65)⟩,
 ⟨(some 15), none, .mov (tm 66)⟩])
 (.seq
 (.ops [⟨(some 68), none, .load 24 (tm 3) (some 2)⟩,
 ⟨(some 69), none, .mov (tm 10)⟩,
 ⟨(some 70), none, .mov (tm 12)⟩,
 ⟨(some 71), none, .call 25 [(tm 68), (tm 69), (tm 70)] 39⟩,
 ⟨(some 67), none, .mov (tm 71)⟩,
 ⟨(some 72), none, .extract (tm 67) 0⟩,
 ⟨(some 73), none, .extract (tm 67) 1⟩,
 ⟨(some 74), none, .extract (tm 67) 2⟩,
 ⟨(some 16), none, .mov (tm 72)⟩,
 ⟨(some 17), none, .mov (tm 73)⟩,
 ⟨(some 18), none, .mov (tm 74)⟩])
 (.seq
 (.ops [⟨(some 76), none, .load 24 (tm 3) (some 2)⟩,
 ⟨(some 77), none, .mov (tm 10)⟩,
 ⟨(some 78), none, .mov (tm 16)⟩,
 ⟨(some 79), none, .call 18 [(tm 76), (tm 77), (tm 78)] 30⟩,
 ⟨(some 75), none, .mov (tm 79)⟩,
 ⟨(some 80), none, .extract (tm 75) 0⟩,
 ⟨(some 81), none, .extract (tm 75) 1⟩,
 ⟨(some 19), none, .mov (tm 80)⟩,
 ⟨(some 20), none, .mov (tm 81)⟩])
 (.seq
 (.seq
 (.ops [⟨(some 82), none, .mov (tm 13)⟩,
 ⟨(some 83), none, .bin .neq 26 (tm 82) (kc 0)⟩,
 ⟨(some 84), none, .mov (tm 83)⟩,
 ⟨(some 85), some (84, false), .mov (tm 15)⟩,
 ⟨(some 86), some (84, false), .bin .neq 26 (tm 85) (kc 0)⟩,
 ⟨(some 87), none, .pick (tm 84) (.const (.bool true)) (tm 86)⟩,
 ⟨(some 88), none, .mov (tm 87)⟩,
 ⟨(some 89), some (88, false), .mov (tm 18)⟩,
 ⟨(some 90), some (88, false), .bin .neq 26 (tm 89) (kc 0)⟩,
 ⟨(some 91), none, .pick (tm 88) (.const (.bool true)) (tm 90)⟩,
 ⟨(some 92), none, .mov (tm 91)⟩,
 ⟨(some 93), some (92, false), .mov (tm 20)⟩,
 ⟨(some 94), some (92, false), .bin .neq 26 (tm 93) (kc 0)⟩,
 ⟨(some 95), none, .pick (tm 92) (.const (.bool true)) (tm 94)⟩,
 ⟨(some 96), none, .mov (tm 95)⟩,
 ⟨(some 97), some (96, false), .mov (tm 14)⟩,
 ⟨(some 98), some (96, false), .mov (tm 10)⟩,
 ⟨(some 99), some (96, false), .call 46 [(tm 97), (tm 98)] 4⟩,
 ⟨(some 100), some (96, false), .un .not (tm 99)⟩,
 ⟨(some 101), none, .pick (tm 96) (.const (.bool true)) (tm 100)⟩,
 ⟨(some 102), none, .mov (tm 101)⟩,
 ⟨(some 103), some (102, false), .mov (tm 17)⟩,
 ⟨(some 104), some (102, false), .bin .lss 3 (tm 103) (kc 1)⟩,
 ⟨(some 105), none, .pick (tm 102) (.const (.bool true)) (tm 104)⟩,
 ⟨(some 106), none, .mov (tm 105)⟩,
 ⟨(some 107), some (106, false), .mov (tm 12)⟩,
 ⟨(some 108), some (106, false), .mov (tm 19)⟩,
 ⟨(some 109), some (106, false), .call 20 [(tm 107), (tm 108)] 4⟩,
 ⟨(some 110), some (106, false), .un .not (tm 109)⟩,
 ⟨(some 111), none, .pick (tm 106) (.const (.bool true)) (tm 110)⟩,
 ⟨(some 112), none, .mov (tm 111)⟩,
 ⟨(some 113), some (112, false), .mov (tm 16)⟩,
 ⟨(some 114), some (112, false), .len false 25 3 (tm 113)⟩,
 ⟨(some 115), some (112, false), .mov (tm 11)⟩,
 ⟨(some 116), some (112, false), .len false 25 3 (tm 115)⟩,
 ⟨(some 117), some (112, false), .bin .neq 3 (tm 114) (tm 116)⟩,
 ⟨(some 118), none, .pick (tm 112) (.const (.bool true)) (tm 117)⟩])
 (.ite (tm 118)
 (.seq
 (.ops [⟨(some 6), none, .mov (.const (.bool false))⟩])
 .ret)
 .skip))
 (.seq
 (.ops [⟨(some 21), none, .mov (.const (.slice none 0 0))⟩,
 ⟨(some 22), none, .mov (.const (.slice none 0 0))⟩])
 (.seq
 (.seq
 (.ops [⟨(some 23), none, .mov (kc 0)⟩])
 (.block 0
 (.loop
 (.seq
 (.seq
 (.ops [⟨(some 119), none, .mov (tm 23)⟩,
 ⟨(some 120), none, .mov (tm 11)⟩,
 ⟨(some 121), none, .len false 25 3 (tm 120)⟩,
 ⟨(some 122), none, .bin .lss 3 (tm 119) (tm 121)⟩])
 (.ite (tm 122)
 .skip
 (.exit 0)))
 (.seq
 (.block 1
 (.seq
 (.ops [⟨(some 125), none, .mov (tm 21)⟩,
 ⟨(some 126), none, .mov (tm 16)⟩,
 ⟨(some 127), none, .mov (tm 23)⟩,
 ⟨(some 128), none, .iaddr 25 (tm 126) (tm 127) 1⟩,
 ⟨(some 129), none, .load 29 (tm 128) none⟩,
 ⟨(some 130), none, .len false 29 3 (tm 129)⟩,
 ⟨(some 131), none, .bslice 35 1 [(0, (tm 130))] 3 1 [(.int .i64 0)]⟩,
 ⟨(some 132), none, .append 35 35 (tm 125) (tm 131) 3 1 8 [(.int .i64 0)]⟩,
 ⟨(some 21), none, .mov (tm 132)⟩])
 (.ops [⟨(some 133), none, .mov (tm 22)⟩,
 ⟨(some 134), none, .mov (tm 11)⟩,
 ⟨(some 135), none, .mov (tm 23)⟩,
 ⟨(some 136), none, .iaddr 25 (tm 134) (tm 135) 1⟩,
 ⟨(some 137), none, .load 29 (tm 136) none⟩,
 ⟨(some 138), none, .len false 29 3 (tm 137)⟩,
 ⟨(some 139), none, .bslice 35 1 [(0, (tm 138))] 3 1 [(.int .i64 0)]⟩,
 ⟨(some 140), none, .append 35 35 (tm 133) (tm 139) 3 1 8 [(.int .i64 0)]⟩,
 ⟨(some 22), none, .mov (tm 140)⟩])))
 (.ops [⟨(some 123), none, .mov (tm 23)⟩,
 ⟨(some 124), none, .bin .add 3 (tm 123) (kc 1)⟩,
 ⟨(some 23), none, .mov (tm 124)⟩]))))))
 (.seq
 (.ops [⟨(some 141), none, .mov (tm 22)⟩,
 ⟨(some 142), none, .mov (tm 21)⟩,
 ⟨(some 143), none, .call 47 [(tm 141), (tm 142)] 4⟩,
 ⟨(some 144), none, .un .not (tm 143)⟩,
 ⟨(some 145), none, .mov (tm 144)⟩,
 ⟨(some 146), some (145, true), .mov (tm 17)⟩,
 ⟨(some 147), some (145, true), .bin .gtr 3 (tm 146) (kc 1)⟩,
 ⟨(some 148), some (145, true), .mov (tm 147)⟩,
 ⟨(some 149), some (148, false), .mov (tm 21)⟩,
 ⟨(some 150), some (148, false), .mov (tm 22)⟩,
 ⟨(some 151), some (148, false), .call 24 [(tm 149), (tm 150)] 4⟩,
 ⟨(some 152), some (145, true), .pick (tm 148) (.const (.bool true)) (tm 151)⟩,
 ⟨(some 153), none, .pick (tm 145) (tm 152) (.const (.bool false))⟩,
 ⟨(some 154), none, .mov (tm 153)⟩,
 ⟨(some 155), some (154, true), .call 21 [] 4⟩,
 ⟨(some 156), none, .pick (tm 154) (tm 155) (.const (.bool false))⟩,
 ⟨(some 6), none, .mov (tm 156)⟩])
 .ret))))))))))))
theorem fn9 : FnOK Try.prog 9 157 [.tmp 6] L9 := ⟨Try.f9, Try.func9, by kernel_rfl, Try.ntmps9, by rw [Try.results9], by kernel_rfl⟩
def L17 : LCode :=
 (.seq
 (.ops [⟨(some 1), none, .box 24 (tm 0)⟩,
 ⟨(some 2), none, .mov (kc 0)⟩,
 ⟨(some 3), none, .mov (kc 0)⟩,
 ⟨(some 4), none, .mov (kc 0)⟩])
 (.seq
 (.seq
 (.ops [⟨(some 10), none, .faddr 24 (tm 1) 0 0⟩,
 ⟨(some 11), none, .load 3 (tm 10) none⟩,
 ⟨(some 12), none, .call 53 [(tm 11), (kc 8), (kc 30)] 4⟩,
 ⟨(some 13), none, .un .not (tm 12)⟩])
 (.ite (tm 13)
 (.seq
 (.ops [⟨(some 2), none, .mov (kc 1)⟩,
 ⟨(some 3), none, .mov (kc 0)⟩,
 ⟨(some 4), none, .mov (kc 7)⟩])
 .ret)
 .skip))
 (.seq
 (.seq
 (.ops [⟨(some 14), none, .faddr 24 (tm 1) 1 1⟩,
 ⟨(some 15), none, .load 22 (tm 14) none⟩,
 ⟨(some 16), none, .len false 22 3 (tm 15)⟩,
 ⟨(some 17), none, .bin .gtr 3 (tm 16) (kc 4)⟩])
 (.ite (tm 17)
 (.seq
 (.ops [⟨(some 2), none, .mov (kc 2)⟩,
 ⟨(some 3), none, .mov (kc 0)⟩,
 ⟨(some 4), none, .mov (kc 3)⟩])
 .ret)
 .skip))
 (.seq
 (.ops [⟨(some 5), none, .mov (.const (.slice none 0 0))⟩])
 (.seq
 (.seq
 (.ops [⟨(some 6), none, .mov (kc 0)⟩])
 (.block 0
 (.loop
 (.seq
 (.seq
 (.ops [⟨(some 18), none, .mov (tm 6)⟩,
 ⟨(some 19), none, .faddr 24 (tm 1) 1 1⟩,
 ⟨(some 20), none, .load 22 (tm 19) none⟩,
 ⟨(some 21), none, .len false 22 3 (tm 20)⟩,
 ⟨(some 22), none, .bin .lss 3 (tm 18) (tm 21)⟩])
 (.ite (tm 22)
 .skip
 (.exit 0)))
 (.seq
 (.block 1
 (.seq
 (.ops [⟨(some 25), none, .faddr 24 (tm 1) 1 1⟩,
 ⟨(some 26), none, .load 22 (tm 25) none⟩,
 ⟨(some 27), none, .mov (tm 6)⟩,
 ⟨(some 28), none, .iaddr 22 (tm 26) (tm 27) 2⟩,
 ⟨(some 29), none, .load 64 (tm 28) (some 2)⟩,
 ⟨(some 7), none, .alloc 64 [(.string ⟨#[]⟩), (.slice none 0 0)]⟩,
 ⟨none, none, .store 64 (tm 7) (tm 29) 2⟩])
 (.seq
 (.ops [⟨(some 30), none, .faddr 64 (tm 7) 0 0⟩,
 ⟨(some 31), none, .load 9 (tm 30) none⟩,
 ⟨(some 32), none, .mov (tm 5)⟩,
 ⟨(some 33), none, .call 62 [(tm 31), (tm 32)] 26⟩,
 ⟨(some 8), none, .mov (tm 33)⟩])
 (.seq
 (.ops [⟨(some 34), none, .mov (tm 5)⟩,
 ⟨(some 35), none, .faddr 64 (tm 7) 0 0⟩,
 ⟨(some 36), none, .load 9 (tm 35) none⟩,
 ⟨(some 37), none, .bslice 29 1 [(0, (tm 36))] 9 1 [(.string ⟨#[]⟩)]⟩,
 ⟨(some 38), none, .append 29 29 (tm 34) (tm 37) 9 1 16 [(.string ⟨#[]⟩)]⟩,
 ⟨(some 5), none, .mov (tm 38)⟩])
 (.seq
 (.seq
 (.ops [⟨(some 39), none, .mov (tm 8)⟩,
 ⟨(some 40), none, .bin .eql 26 (tm 39) (kc 0)⟩,
 ⟨(some 41), none, .mov (tm 40)⟩,
 ⟨(some 42), some (41, true), .faddr 64 (tm 7) 1 1⟩,
 ⟨(some 43), some (41, true), .load 62 (tm 42) none⟩,
 ⟨(some 44), some (41, true), .len false 62 3 (tm 43)⟩,
 ⟨(some 45), some (41, true), .bin .gtr 3 (tm 44) (kc 5)⟩,
 ⟨(some 46), none, .pick (tm 41) (tm 45) (.const (.bool false))⟩])
 (.ite (tm 46)
 (.ops [⟨(some 8), none, .mov (kc 3)⟩])
 .skip))
 (.seq
 (.seq
 (.ops [⟨(some 9), none, .mov (kc 0)⟩])
 (.block 2
 (.loop
 (.seq
 (.seq
 (.ops [⟨(some 47), none, .mov (tm 9)⟩,
 ⟨(some 48), none, .faddr 64 (tm 7) 1 1⟩,
 ⟨(some 49), none, .load 62 (tm 48) none⟩,
 ⟨(some 50), none, .len false 62 3 (tm 49)⟩,
 ⟨(some 51), none, .bin .lss 3 (tm 47) (tm 50)⟩,
 ⟨(some 52), none, .mov (tm 51)⟩,
 ⟨(some 53), some (52, true), .mov (tm 8)⟩,
 ⟨(some 54), some (52, true), .bin .eql 26 (tm 53) (kc 0)⟩,
 ⟨(some 55), none, .pick (tm 52) (tm 54) (.const (.bool false))⟩])
 (.ite (tm 55)
 .skip
 (.exit 2)))
 (.seq
 (.block 3
 (.ops [⟨(some 58), none, .faddr 64 (tm 7) 1 1⟩,
 ⟨(some 59), none, .load 62 (tm 58) none⟩,
 ⟨(some 60), none, .mov (tm 9)⟩,
 ⟨(some 61), none, .iaddr 62 (tm 59) (tm 60) 3⟩,
 ⟨(some 62), none, .load 84 (tm 61) (some 3)⟩,
 ⟨(some 63), none, .call 63 [(tm 62)] 26⟩,
 ⟨(some 8), none, .mov (tm 63)⟩]))
 (.ops [⟨(some 56), none, .mov (tm 9)⟩,
 ⟨(some 57), none, .bin .add 3 (tm 56) (kc 1)⟩,
 ⟨(some 9), none, .mov (tm 57)⟩]))))))
 (.seq
 (.ops [⟨(some 64), none, .mov (tm 8)⟩,
 ⟨(some 65), none, .bin .neq 26 (tm 64) (kc 0)⟩])
 (.ite (tm 65)
 (.seq
 (.ops [⟨(some 66), none, .mov (tm 6)⟩,
 ⟨(some 67), none, .mov (tm 8)⟩,
 ⟨(some 2), none, .mov (kc 2)⟩,
 ⟨(some 3), none, .mov (tm 66)⟩,
 ⟨(some 4), none, .mov (tm 67)⟩])
 .ret)
 .skip))))))))
 (.ops [⟨(some 23), none, .mov (tm 6)⟩,
 ⟨(some 24), none, .bin .add 3 (tm 23) (kc 1)⟩,
 ⟨(some 6), none, .mov (tm 24)⟩]))))))
 (.seq
 (.ops [⟨(some 2), none, .mov (kc 0)⟩,
 ⟨(some 3), none, .mov (kc 0)⟩,
 ⟨(some 4), none, .mov (kc 0)⟩])
 .ret))))))
theorem fn17 : FnOK Try.prog 17 68 [.tmp 2, .tmp 3, .tmp 4] L17 := ⟨Try.f17, Try.func17, by kernel_rfl, Try.ntmps17, by rw [Try.results17], by kernel_rfl⟩
def L43 : LCode :=
 (.seq
 (.ops [⟨(some 1), none, .box 24 (tm 0)⟩,
 ⟨(some 2), none, .mov (.const (.bool false))⟩])
 (.seq
 (.ops [⟨(some 7), none, .load 24 (tm 1) (some 2)⟩,
 ⟨(some 8), none, .call 17 [(tm 7)] 27⟩,
 ⟨(some 6), none, .mov (tm 8)⟩,
 ⟨(some 9), none, .extract (tm 6) 0⟩,
 ⟨(some 10), none, .extract (tm 6) 1⟩,
 ⟨(some 11), none, .extract (tm 6) 2⟩,
 ⟨(some 3), none, .mov (tm 9)⟩,
 ⟨(some 4), none, .mov (tm 10)⟩,
 ⟨(some 5), none, .mov (tm 11)⟩])
 (.seq
 (.ops [⟨(some 12), none, .mov (tm 5)⟩,
 ⟨(some 13), none, .bin .eql 26 (tm 12) (kc 0)⟩,
 ⟨(some 2), none, .mov (tm 13)⟩])
 .ret)))
theorem fn43 : FnOK Try.prog 43 14 [.tmp 2] L43 := ⟨Try.f43, Try.func43, by kernel_rfl, Try.ntmps43, by rw [Try.results43], by kernel_rfl⟩
def L44 : LCode :=
 (.seq
 (.ops [⟨(some 2), none, .box 24 (tm 0)⟩,
 ⟨(some 4), none, .mov (kc 0)⟩])
 (.seq
 (.ops [⟨(some 5), none, .mov (tm 1)⟩,
 ⟨(some 6), none, .toInt .i64 5 3 (tm 5)⟩,
 ⟨(some 7), none, .faddr 24 (tm 2) 1 1⟩,
 ⟨(some 8), none, .load 22 (tm 7) none⟩,
 ⟨(some 9), none, .len false 22 3 (tm 8)⟩,
 ⟨(some 10), none, .bin .rem 3 (tm 6) (tm 9)⟩,
 ⟨(some 4), none, .mov (tm 10)⟩])
 .ret))
theorem fn44 : FnOK Try.prog 44 11 [.tmp 4] L44 := ⟨Try.f44, Try.func44, by kernel_rfl, Try.ntmps44, by rw [Try.results44], by kernel_rfl⟩
def L45 : LCode :=
 (.seq
 (.ops [⟨(some 2), none, .box 64 (tm 0)⟩,
 ⟨(some 4), none, .mov (.const (.slice none 0 0))⟩])
 (.seq
 (.ops [⟨(some 12), none, .load 64 (tm 2) (some 2)⟩,
 ⟨(some 13), none, .call 68 [(tm 12)] 97⟩,
 ⟨(some 5), none, .mov (tm 13)⟩])
 (.seq
 (.ops [⟨(some 6), none, .mov (.const (.slice none 0 0))⟩])
 (.seq
 (.ops [⟨(some 7), none, .mov (kc 0)⟩])
 (.seq
 (.seq
 (.ops [⟨(some 8), none, .mov (kc 0)⟩])
 (.block 0
 (.loop
 (.seq
 (.seq
 (.ops [⟨(some 14), none, .mov (tm 8)⟩,
 ⟨(some 15), none, .mov (tm 5)⟩,
 ⟨(some 16), none, .len false 97 3 (tm 15)⟩,
 ⟨(some 17), none, .bin .lss 3 (tm 14) (tm 16)⟩])
 (.ite (tm 17)
 .skip
 (.exit 0)))
 (.seq
 (.block 1
 (.seq
 (.dops [(⟨(some 20), none, .mov (tm 5)⟩, []),
 (⟨(some 21), none, .mov (tm 8)⟩, []),
 (⟨(some 22), none, .iaddr 97 (tm 20) (tm 21) 2⟩, [0, 1]),
 (⟨(some 23), none, .faddr 82 (tm 22) 0 0⟩, [2]),
 (⟨(some 24), none, .load 3 (tm 23) none⟩, [3]),
 (⟨(some 25), none, .mov (tm 1)⟩, []),
 (⟨(some 26), none, .mov (tm 7)⟩, []),
 (⟨(some 27), none, .call 93 [(tm 25), (tm 26)] 3⟩, [5, 6]),
 (⟨(some 28), none, .mov (tm 5)⟩, []),
 (⟨(some 29), none, .mov (tm 8)⟩, []),
 (⟨(some 30), none, .iaddr 97 (tm 28) (tm 29) 2⟩, [8, 9]),
 (⟨(some 31), none, .faddr 82 (tm 30) 1 1⟩, [10]),
 (⟨(some 32), none, .load 3 (tm 31) none⟩, [11]),
 (⟨(some 33), none, .mov (tm 5)⟩, []),
 (⟨(some 34), none, .mov (tm 8)⟩, []),
 (⟨(some 35), none, .iaddr 97 (tm 33) (tm 34) 2⟩, [13, 14]),
 (⟨(some 36), none, .faddr 82 (tm 35) 0 0⟩, [15]),
 (⟨(some 37), none, .load 3 (tm 36) none⟩, [16]),
 (⟨(some 38), none, .bin .sub 3 (tm 32) (tm 37)⟩, [12, 17]),
 (⟨(some 39), none, .bin .add 3 (tm 38) (kc 1)⟩, [18]),
 (⟨(some 40), none, .bin .rem 3 (tm 27) (tm 39)⟩, [7, 19]),
 (⟨(some 41), none, .bin .add 3 (tm 24) (tm 40)⟩, [4, 20]),
 (⟨(some 9), none, .mov (tm 41)⟩, [21, 7, 0, 1, 2, 3, 4, 5, 6, 7, 8, 9, 10, 11, 12, 13, 14, 15, 16, 17, 18, 19, 20, 21])])
 (.seq
 (.ops [⟨(some 42), none, .mov (tm 7)⟩,
 ⟨(some 43), none, .bin .add 3 (tm 42) (kc 1)⟩,
 ⟨(some 7), none, .mov (tm 43)⟩])
 (.seq
 (.ops [⟨(some 10), none, .mov (.const (.slice none 0 0))⟩])
 (.seq
 (.seq
 (.ops [⟨(some 11), none, .mov (kc 0)⟩])
 (.block 2
 (.loop
 (.seq
 (.seq
 (.ops [⟨(some 44), none, .mov (tm 11)⟩,
 ⟨(some 45), none, .mov (tm 9)⟩,
 ⟨(some 46), none, .bin .lss 3 (tm 44) (tm 45)⟩])
 (.ite (tm 46)
 .skip
 (.exit 2)))
 (.seq
 (.block 3
 (.seq
 (.ops [⟨(some 49), none, .mov (tm 10)⟩,
 ⟨(some 50), none, .call 94 [] 29⟩,
 ⟨(some 51), none, .mov (tm 1)⟩,
 ⟨(some 52), none, .mov (tm 7)⟩,
 ⟨(some 53), none, .call 93 [(tm 51), (tm 52)] 3⟩,
 ⟨(some 54), none, .call 94 [] 29⟩,
 ⟨(some 55), none, .len false 29 3 (tm 54)⟩,
 ⟨(some 56), none, .bin .rem 3 (tm 53) (tm 55)⟩,
 ⟨(some 57), none, .iaddr 29 (tm 50) (tm 56) 1⟩,
 ⟨(some 58), none, .load 9 (tm 57) none⟩,
 ⟨(some 59), none, .bslice 29 1 [(0, (tm 58))] 9 1 [(.string ⟨#[]⟩)]⟩,
 ⟨(some 60), none, .append 29 29 (tm 49) (tm 59) 9 1 16 [(.string ⟨#[]⟩)]⟩,
 ⟨(some 10), none, .mov (tm 60)⟩])
 (.ops [⟨(some 61), none, .mov (tm 7)⟩,
 ⟨(some 62), none, .bin .add 3 (tm 61) (kc 1)⟩,
 ⟨(some 7), none, .mov (tm 62)⟩])))
 (.ops [⟨(some 47), none, .mov (tm 11)⟩,
 ⟨(some 48), none, .bin .add 3 (tm 47) (kc 1)⟩,
 ⟨(some 11), none, .mov (tm 48)⟩]))))))
 (.ops [⟨(some 63), none, .bslice 25 0 [] 29 1 [(.slice none 0 0)]⟩,
 ⟨(some 64), none, .mov (tm 6)⟩,
 ⟨(some 65), none, .append 25 25 (tm 63) (tm 64) 29 1 24 [(.slice none 0 0)]⟩,
 ⟨(some 66), none, .mov (tm 10)⟩,
 ⟨(some 67), none, .bslice 25 1 [(0, (tm 66))] 29 1 [(.slice none 0 0)]⟩,
 ⟨(some 68), none, .append 25 25 (tm 65) (tm 67) 29 1 24 [(.slice none 0 0)]⟩,
 ⟨(some 6), none, .mov (tm 68)⟩]))))))
 (.ops [⟨(some 18), none, .mov (tm 8)⟩,
 ⟨(some 19), none, .bin .add 3 (tm 18) (kc 1)⟩,
 ⟨(some 8), none, .mov (tm 19)⟩]))))))
 (.seq
 (.ops [⟨(some 69), none, .mov (tm 6)⟩,
 ⟨(some 4), none, .mov (tm 69)⟩])
 .ret))))))
theorem fn45 : FnOK Try.prog 45 70 [.tmp 4] L45 := ⟨Try.f45, Try.func45, by kernel_rfl, Try.ntmps45, by rw [Try.results45], by kernel_rfl⟩
def L46 : LCode :=
 (.seq
 (.ops [⟨(some 4), none, .mov (.const (.bool false))⟩])
 (.seq
 (.ops [⟨(some 5), none, .mov (.const (.bool false))⟩])
 (.seq
 (.seq
 (.ops [⟨(some 6), none, .mov (kc 0)⟩])
 (.block 0
 (.loop
 (.seq
 (.seq
 (.ops [⟨(some 7), none, .mov (tm 6)⟩,
 ⟨(some 8), none, .mov (tm 0)⟩,
 ⟨(some 9), none, .len false 35 3 (tm 8)⟩,
 ⟨(some 10), none, .bin .lss 3 (tm 7) (tm 9)⟩])
 (.ite (tm 10)
 .skip
 (.exit 0)))
 (.seq
 (.block 1
 (.ops [⟨(some 13), none, .mov (tm 5)⟩,
 ⟨(some 14), none, .mov (tm 13)⟩,
 ⟨(some 15), some (14, false), .mov (tm 0)⟩,
 ⟨(some 16), some (14, false), .mov (tm 6)⟩,
 ⟨(some 17), some (14, false), .iaddr 35 (tm 15) (tm 16) 1⟩,
 ⟨(some 18), some (14, false), .load 3 (tm 17) none⟩,
 ⟨(some 19), some (14, false), .mov (tm 1)⟩,
 ⟨(some 20), some (14, false), .bin .eql 3 (tm 18) (tm 19)⟩,
 ⟨(some 21), none, .pick (tm 14) (.const (.bool true)) (tm 20)⟩,
 ⟨(some 5), none, .mov (tm 21)⟩]))
 (.ops [⟨(some 11), none, .mov (tm 6)⟩,
 ⟨(some 12), none, .bin .add 3 (tm 11) (kc 1)⟩,
 ⟨(some 6), none, .mov (tm 12)⟩]))))))
 (.seq
 (.ops [⟨(some 22), none, .mov (tm 5)⟩,
 ⟨(some 4), none, .mov (tm 22)⟩])
 .ret))))
theorem fn46 : FnOK Try.prog 46 23 [.tmp 4] L46 := ⟨Try.f46, Try.func46, by kernel_rfl, Try.ntmps46, by rw [Try.results46], by kernel_rfl⟩
def L53 : LCode :=
 (.seq
 (.ops [⟨(some 6), none, .mov (.const (.bool false))⟩])
 (.seq
 (.ops [⟨(some 7), none, .mov (tm 0)⟩,
 ⟨(some 8), none, .mov (tm 1)⟩,
 ⟨(some 9), none, .bin .geq 3 (tm 7) (tm 8)⟩,
 ⟨(some 10), none, .mov (tm 9)⟩,
 ⟨(some 11), some (10, true), .mov (tm 0)⟩,
 ⟨(some 12), some (10, true), .mov (tm 2)⟩,
 ⟨(some 13), some (10, true), .bin .leq 3 (tm 11) (tm 12)⟩,
 ⟨(some 14), none, .pick (tm 10) (tm 13) (.const (.bool false))⟩,
 ⟨(some 6), none, .mov (tm 14)⟩])
 .ret))
theorem fn53 : FnOK Try.prog 53 15 [.tmp 6] L53 := ⟨Try.f53, Try.func53, by kernel_rfl, Try.ntmps53, by rw [Try.results53], by kernel_rfl⟩
def L55 : LCode :=
 (.seq
 (.ops [⟨(some 1), none, .box 84 (tm 0)⟩,
 ⟨(some 2), none, .mov (.const (.bool false))⟩])
 (.seq
 (.ops [⟨(some 3), none, .faddr 84 (tm 1) 0 0⟩,
 ⟨(some 4), none, .load 29 (tm 3) none⟩,
 ⟨(some 5), none, .len false 29 3 (tm 4)⟩,
 ⟨(some 6), none, .bin .eql 3 (tm 5) (kc 0)⟩,
 ⟨(some 2), none, .mov (tm 6)⟩])
 .ret))
theorem fn55 : FnOK Try.prog 55 7 [.tmp 2] L55 := ⟨Try.f55, Try.func55, by kernel_rfl, Try.ntmps55, by rw [Try.results55], by kernel_rfl⟩
def L62 : LCode :=
 (.seq
 (.ops [⟨(some 4), none, .mov (kc 0)⟩])
 (.seq
 (.ops [⟨(some 5), none, .mov (kc 0)⟩])
 (.seq
 (.seq
 (.ops [⟨(some 6), none, .mov (tm 1)⟩,
 ⟨(some 7), none, .mov (tm 0)⟩,
 ⟨(some 8), none, .call 100 [(tm 6), (tm 7)] 3⟩,
 ⟨(some 9), none, .bin .geq 3 (tm 8) (kc 0)⟩])
 (.ite (tm 9)
 (.ops [⟨(some 5), none, .mov (kc 5)⟩])
 .skip))
 (.seq
 (.seq
 (.ops [⟨(some 10), none, .mov (tm 0)⟩,
 ⟨(some 11), none, .call 101 [(tm 10)] 4⟩,
 ⟨(some 12), none, .un .not (tm 11)⟩])
 (.ite (tm 12)
 (.ops [⟨(some 5), none, .mov (kc 6)⟩])
 .skip))
 (.seq
 (.ops [⟨(some 13), none, .mov (tm 5)⟩,
 ⟨(some 4), none, .mov (tm 13)⟩])
 .ret)))))
theorem fn62 : FnOK Try.prog 62 14 [.tmp 4] L62 := ⟨Try.f62, Try.func62, by kernel_rfl, Try.ntmps62, by rw [Try.results62], by kernel_rfl⟩
def L63 : LCode :=
 (.seq
 (.ops [⟨(some 1), none, .box 84 (tm 0)⟩,
 ⟨(some 2), none, .mov (kc 0)⟩])
 (.seq
 (.seq
 (.ops [⟨(some 3), none, .faddr 84 (tm 1) 0 0⟩,
 ⟨(some 4), none, .load 29 (tm 3) none⟩,
 ⟨(some 5), none, .len false 29 3 (tm 4)⟩,
 ⟨(some 6), none, .bin .gtr 3 (tm 5) (kc 3)⟩])
 (.ite (tm 6)
 (.seq
 (.ops [⟨(some 2), none, .mov (kc 3)⟩])
 .ret)
 .skip))
 (.seq
 (.seq
 (.ops [⟨(some 7), none, .faddr 84 (tm 1) 0 0⟩,
 ⟨(some 8), none, .load 29 (tm 7) none⟩,
 ⟨(some 9), none, .call 95 [(tm 8)] 4⟩,
 ⟨(some 10), none, .un .not (tm 9)⟩])
 (.ite (tm 10)
 (.seq
 (.ops [⟨(some 2), none, .mov (kc 6)⟩])
 .ret)
 .skip))
 (.seq
 (.seq
 (.ops [⟨(some 11), none, .load 84 (tm 1) (some 3)⟩,
 ⟨(some 12), none, .call 55 [(tm 11)] 4⟩,
 ⟨(some 13), none, .un .not (tm 12)⟩])
 (.ite (tm 13)
 (.seq
 (.seq
 (.ops [⟨(some 14), none, .faddr 84 (tm 1) 1 1⟩,
 ⟨(some 15), none, .load 82 (tm 14) (some 2)⟩,
 ⟨(some 16), none, .build 82 [] [(.int .i64 0), (.int .i64 0)] []⟩,
 ⟨(some 17), none, .eqT true 82 (tm 15) (tm 16)⟩])
 (.ite (tm 17)
 (.seq
 (.ops [⟨(some 2), none, .mov (kc 2)⟩])
 .ret)
 .skip))
 (.seq
 (.ops [⟨(some 2), none, .mov (kc 0)⟩])
 .ret))
 .skip))
 (.seq
 (.seq
 (.ops [⟨(some 18), none, .faddr 84 (tm 1) 1 1⟩,
 ⟨(some 19), none, .faddr 82 (tm 18) 0 0⟩,
 ⟨(some 20), none, .load 3 (tm 19) none⟩,
 ⟨(some 21), none, .call 53 [(tm 20), (kc 0), (kc 3)] 4⟩,
 ⟨(some 22), none, .un .not (tm 21)⟩,
 ⟨(some 23), none, .mov (tm 22)⟩,
 ⟨(some 24), some (23, false), .faddr 84 (tm 1) 1 1⟩,
 ⟨(some 25), some (23, false), .faddr 82 (tm 24) 1 1⟩,
 ⟨(some 26), some (23, false), .load 3 (tm 25) none⟩,
 ⟨(some 27), some (23, false), .call 53 [(tm 26), (kc 1), (kc 3)] 4⟩,
 ⟨(some 28), some (23, false), .un .not (tm 27)⟩,
 ⟨(some 29), none, .pick (tm 23) (.const (.bool true)) (tm 28)⟩])
 (.ite (tm 29)
 (.seq
 (.ops [⟨(some 2), none, .mov (kc 7)⟩])
 .ret)
 .skip))
 (.seq
 (.seq
 (.ops [⟨(some 30), none, .faddr 84 (tm 1) 1 1⟩,
 ⟨(some 31), none, .faddr 82 (tm 30) 0 0⟩,
 ⟨(some 32), none, .load 3 (tm 31) none⟩,
 ⟨(some 33), none, .faddr 84 (tm 1) 1 1⟩,
 ⟨(some 34), none, .faddr 82 (tm 33) 1 1⟩,
 ⟨(some 35), none, .load 3 (tm 34) none⟩,
 ⟨(some 36), none, .bin .gtr 3 (tm 32) (tm 35)⟩])
 (.ite (tm 36)
 (.seq
 (.ops [⟨(some 2), none, .mov (kc 2)⟩])
 .ret)
 .skip))
 (.seq
 (.ops [⟨(some 2), none, .mov (kc 0)⟩])
 .ret)))))))
theorem fn63 : FnOK Try.prog 63 37 [.tmp 2] L63 := ⟨Try.f63, Try.func63, by kernel_rfl, Try.ntmps63, by rw [Try.results63], by kernel_rfl⟩
def L68 : LCode :=
 (.seq
 (.ops [⟨(some 1), none, .box 64 (tm 0)⟩,
 ⟨(some 2), none, .mov (.const (.slice none 0 0))⟩])
 (.seq
 (.ops [⟨(some 3), none, .mov (.const (.slice none 0 0))⟩])
 (.seq
 (.seq
 (.ops [⟨(some 4), none, .mov (kc 0)⟩])
 (.block 0
 (.loop
 (.seq
 (.seq
 (.ops [⟨(some 5), none, .mov (tm 4)⟩,
 ⟨(some 6), none, .faddr 64 (tm 1) 1 1⟩,
 ⟨(some 7), none, .load 62 (tm 6) none⟩,
 ⟨(some 8), none, .len false 62 3 (tm 7)⟩,
 ⟨(some 9), none, .bin .lss 3 (tm 5) (tm 8)⟩])
 (.ite (tm 9)
 .skip
 (.exit 0)))
 (.seq
 (.block 1
 (.seq
 (.ops [⟨(some 12), none, .faddr 64 (tm 1) 1 1⟩,
 ⟨(some 13), none, .load 62 (tm 12) none⟩,
 ⟨(some 14), none, .mov (tm 4)⟩,
 ⟨(some 15), none, .iaddr 62 (tm 13) (tm 14) 3⟩,
 ⟨(some 16), none, .load 84 (tm 15) (some 3)⟩,
 ⟨(some 17), none, .call 55 [(tm 16)] 4⟩])
 (.ite (tm 17)
 (.ops [⟨(some 18), none, .mov (tm 3)⟩,
 ⟨(some 19), none, .faddr 64 (tm 1) 1 1⟩,
 ⟨(some 20), none, .load 62 (tm 19) none⟩,
 ⟨(some 21), none, .mov (tm 4)⟩,
 ⟨(some 22), none, .iaddr 62 (tm 20) (tm 21) 3⟩,
 ⟨(some 23), none, .faddr 84 (tm 22) 1 1⟩,
 ⟨(some 24), none, .load 82 (tm 23) (some 2)⟩,
 ⟨(some 25), none, .bslice 97 1 [(0, (tm 24))] 82 2 [(.int .i64 0), (.int .i64 0)]⟩,
 ⟨(some 26), none, .append 97 97 (tm 18) (tm 25) 82 2 16 [(.int .i64 0), (.int .i64 0)]⟩,
 ⟨(some 3), none, .mov (tm 26)⟩])
 .skip)))
 (.ops [⟨(some 10), none, .mov (tm 4)⟩,
 ⟨(some 11), none, .bin .add 3 (tm 10) (kc 1)⟩,
 ⟨(some 4), none, .mov (tm 11)⟩]))))))
 (.seq
 (.ops [⟨(some 27), none, .mov (tm 3)⟩,
 ⟨(some 2), none, .mov (tm 27)⟩])
 .ret))))
theorem fn68 : FnOK Try.prog 68 28 [.tmp 2] L68 := ⟨Try.f68, Try.func68, by kernel_rfl, Try.ntmps68, by rw [Try.results68], by kernel_rfl⟩
def L93 : LCode :=
 (.seq
 (.ops [⟨(some 4), none, .mov (kc 0)⟩])
 (.seq
 (.seq
 (.ops [⟨(some 5), none, .mov (tm 0)⟩,
 ⟨(some 6), none, .len false 58 3 (tm 5)⟩,
 ⟨(some 7), none, .bin .eql 3 (tm 6) (kc 0)⟩])
 (.ite (tm 7)
 (.seq
 (.ops [⟨(some 4), none, .mov (kc 0)⟩])
 .ret)
 .skip))
 (.seq
 (.ops [⟨(some 8), none, .mov (tm 0)⟩,
 ⟨(some 9), none, .mov (tm 1)⟩,
 ⟨(some 10), none, .mov (tm 0)⟩,
 ⟨(some 11), none, .len false 58 3 (tm 10)⟩,
 ⟨(some 12), none, .bin .rem 3 (tm 9) (tm 11)⟩,
 ⟨(some 13), none, .iaddr 58 (tm 8) (tm 12) 1⟩,
 ⟨(some 14), none, .load 5 (tm 13) none⟩,
 ⟨(some 15), none, .toInt .i64 5 3 (tm 14)⟩,
 ⟨(some 4), none, .mov (tm 15)⟩])
 .ret)))
theorem fn93 : FnOK Try.prog 93 16 [.tmp 4] L93 := ⟨Try.f93, Try.func93, by kernel_rfl, Try.ntmps93, by rw [Try.results93], by kernel_rfl⟩
def L94 : LCode :=
 (.seq
 (.ops [⟨(some 0), none, .mov (.const (.slice none 0 0))⟩])
 (.seq
 (.ops [⟨(some 1), none, .bslice 29 8 [(0, (.const (.string ⟨#[97]⟩))), (1, (.const (.string ⟨#[105]⟩))), (2, (.const (.string ⟨#[97, 115, 107]⟩))), (3, (.const (.string ⟨#[116, 111]⟩))), (4, (.const (.string ⟨#[116, 104, 101]⟩))), (5, (.const (.string ⟨#[98]⟩))), (6, (.const (.string ⟨#[106, 117, 100, 103, 101]⟩))), (7, (.const (.string ⟨#[109, 101, 114, 99, 121]⟩)))] 9 1 [(.string ⟨#[]⟩)]⟩,
 ⟨(some 0), none, .mov (tm 1)⟩])
 .ret))
theorem fn94 : FnOK Try.prog 94 2 [.tmp 0] L94 := ⟨Try.f94, Try.func94, by kernel_rfl, Try.ntmps94, by rw [Try.results94], by kernel_rfl⟩
def L95 : LCode :=
 (.seq
 (.ops [⟨(some 2), none, .mov (.const (.bool false))⟩])
 (.seq
 (.ops [⟨(some 3), none, .mov (.const (.bool true))⟩])
 (.seq
 (.seq
 (.ops [⟨(some 4), none, .mov (kc 0)⟩])
 (.block 0
 (.loop
 (.seq
 (.seq
 (.ops [⟨(some 5), none, .mov (tm 4)⟩,
 ⟨(some 6), none, .mov (tm 0)⟩,
 ⟨(some 7), none, .len false 29 3 (tm 6)⟩,
 ⟨(some 8), none, .bin .lss 3 (tm 5) (tm 7)⟩])
 (.ite (tm 8)
 .skip
 (.exit 0)))
 (.seq
 (.block 1
 (.ops [⟨(some 11), none, .mov (tm 3)⟩,
 ⟨(some 12), none, .mov (tm 11)⟩,
 ⟨(some 13), some (12, true), .mov (tm 0)⟩,
 ⟨(some 14), some (12, true), .mov (tm 4)⟩,
 ⟨(some 15), some (12, true), .iaddr 29 (tm 13) (tm 14) 1⟩,
 ⟨(some 16), some (12, true), .load 9 (tm 15) none⟩,
 ⟨(some 17), some (12, true), .call 123 [(tm 16)] 4⟩,
 ⟨(some 18), none, .pick (tm 12) (tm 17) (.const (.bool false))⟩,
 ⟨(some 3), none, .mov (tm 18)⟩]))
 (.ops [⟨(some 9), none, .mov (tm 4)⟩,
 ⟨(some 10), none, .bin .add 3 (tm 9) (kc 1)⟩,
 ⟨(some 4), none, .mov (tm 10)⟩]))))))
 (.seq
 (.ops [⟨(some 19), none, .mov (tm 3)⟩,
 ⟨(some 2), none, .mov (tm 19)⟩])
 .ret))))
theorem fn95 : FnOK Try.prog 95 20 [.tmp 2] L95 := ⟨Try.f95, Try.func95, by kernel_rfl, Try.ntmps95, by rw [Try.results95], by kernel_rfl⟩
def L100 : LCode :=
 (.seq
 (.ops [⟨(some 4), none, .mov (kc 0)⟩])
 (.seq
 (.ops [⟨(some 5), none, .mov (kc 0)⟩])
 (.seq
 (.block 0
 (.loop
 (.seq
 (.seq
 (.ops [⟨(some 6), none, .mov (tm 5)⟩,
 ⟨(some 7), none, .mov (tm 0)⟩,
 ⟨(some 8), none, .len false 29 3 (tm 7)⟩,
 ⟨(some 9), none, .bin .lss 3 (tm 6) (tm 8)⟩,
 ⟨(some 10), none, .mov (tm 9)⟩,
 ⟨(some 11), some (10, true), .mov (tm 0)⟩,
 ⟨(some 12), some (10, true), .mov (tm 5)⟩,
 ⟨(some 13), some (10, true), .iaddr 29 (tm 11) (tm 12) 1⟩,
 ⟨(some 14), some (10, true), .load 9 (tm 13) none⟩,
 ⟨(some 15), some (10, true), .mov (tm 1)⟩,
 ⟨(some 16), some (10, true), .bin .neq 9 (tm 14) (tm 15)⟩,
 ⟨(some 17), none, .pick (tm 10) (tm 16) (.const (.bool false))⟩])
 (.ite (tm 17)
 .skip
 (.exit 0)))
 (.block 1
 (.ops [⟨(some 18), none, .mov (tm 5)⟩,
 ⟨(some 19), none, .bin .add 3 (tm 18) (kc 1)⟩,
 ⟨(some 5), none, .mov (tm 19)⟩])))))
 (.seq
 (.seq
 (.ops [⟨(some 20), none, .mov (tm 5)⟩,
 ⟨(some 21), none, .mov (tm 0)⟩,
 ⟨(some 22), none, .len false 29 3 (tm 21)⟩,
 ⟨(some 23), none, .bin .eql 3 (tm 20) (tm 22)⟩])
 (.ite (tm 23)
 (.seq
 (.ops [⟨(some 4), none, .mov (kc (-1))⟩])
 .ret)
 .skip))
 (.seq
 (.ops [⟨(some 24), none, .mov (tm 5)⟩,
 ⟨(some 4), none, .mov (tm 24)⟩])
 .ret)))))
theorem fn100 : FnOK Try.prog 100 25 [.tmp 4] L100 := ⟨Try.f100, Try.func100, by kernel_rfl, Try.ntmps100, by rw [Try.results100], by kernel_rfl⟩
def L101 : LCode :=
 (.seq
 (.ops [⟨(some 2), none, .mov (.const (.bool false))⟩])
 (.seq
 (.ops [⟨(some 6), none, .mov (tm 0)⟩,
 ⟨(some 7), none, .len true 9 3 (tm 6)⟩,
 ⟨(some 8), none, .call 53 [(tm 7), (kc 1), (kc 16)] 4⟩,
 ⟨(some 3), none, .mov (tm 8)⟩])
 (.seq
 (.seq
 (.ops [⟨(some 4), none, .mov (kc 0)⟩])
 (.block 0
 (.loop
 (.seq
 (.seq
 (.ops [⟨(some 9), none, .mov (tm 4)⟩,
 ⟨(some 10), none, .mov (tm 0)⟩,
 ⟨(some 11), none, .len true 9 3 (tm 10)⟩,
 ⟨(some 12), none, .bin .lss 3 (tm 9) (tm 11)⟩])
 (.ite (tm 12)
 .skip
 (.exit 0)))
 (.seq
 (.block 1
 (.seq
 (.ops [⟨(some 15), none, .mov (tm 4)⟩,
 ⟨(some 16), none, .bin .gtr 3 (tm 15) (kc 0)⟩,
 ⟨(some 17), none, .mov (tm 16)⟩,
 ⟨(some 18), some (17, true), .mov (tm 0)⟩,
 ⟨(some 19), some (17, true), .mov (tm 4)⟩,
 ⟨(some 20), some (17, true), .indexS 9 (tm 18) (tm 19)⟩,
 ⟨(some 21), some (17, true), .bin .eql 5 (tm 20) (.const (.int .u8 46))⟩,
 ⟨(some 22), some (17, true), .mov (tm 21)⟩,
 ⟨(some 23), some (22, false), .mov (tm 0)⟩,
 ⟨(some 24), some (22, false), .mov (tm 4)⟩,
 ⟨(some 25), some (22, false), .indexS 9 (tm 23) (tm 24)⟩,
 ⟨(some 26), some (22, false), .toInt .i64 5 3 (tm 25)⟩,
 ⟨(some 27), some (22, false), .call 53 [(tm 26), (kc 48), (kc 57)] 4⟩,
 ⟨(some 28), some (17, true), .pick (tm 22) (.const (.bool true)) (tm 27)⟩,
 ⟨(some 29), none, .pick (tm 17) (tm 28) (.const (.bool false))⟩,
 ⟨(some 5), none, .mov (tm 29)⟩])
 (.ops [⟨(some 30), none, .mov (tm 3)⟩,
 ⟨(some 31), none, .mov (tm 30)⟩,
 ⟨(some 32), some (31, true), .mov (tm 0)⟩,
 ⟨(some 33), some (31, true), .mov (tm 4)⟩,
 ⟨(some 34), some (31, true), .indexS 9 (tm 32) (tm 33)⟩,
 ⟨(some 35), some (31, true), .toInt .i64 5 3 (tm 34)⟩,
 ⟨(some 36), some (31, true), .call 53 [(tm 35), (kc 97), (kc 122)] 4⟩,
 ⟨(some 37), some (31, true), .mov (tm 36)⟩,
 ⟨(some 38), some (37, false), .mov (tm 5)⟩,
 ⟨(some 39), some (31, true), .pick (tm 37) (.const (.bool true)) (tm 38)⟩,
 ⟨(some 40), none, .pick (tm 31) (tm 39) (.const (.bool false))⟩,
 ⟨(some 3), none, .mov (tm 40)⟩])))
 (.ops [⟨(some 13), none, .mov (tm 4)⟩,
 ⟨(some 14), none, .bin .add 3 (tm 13) (kc 1)⟩,
 ⟨(some 4), none, .mov (tm 14)⟩]))))))
 (.seq
 (.ops [⟨(some 41), none, .mov (tm 3)⟩,
 ⟨(some 2), none, .mov (tm 41)⟩])
 .ret))))
theorem fn101 : FnOK Try.prog 101 42 [.tmp 2] L101 := ⟨Try.f101, Try.func101, by kernel_rfl, Try.ntmps101, by rw [Try.results101], by kernel_rfl⟩
def L123 : LCode :=
 (.seq
 (.ops [⟨(some 2), none, .mov (.const (.bool false))⟩])
 (.seq
 (.seq
 (.ops [⟨(some 4), none, .mov (tm 0)⟩,
 ⟨(some 5), none, .len true 9 3 (tm 4)⟩,
 ⟨(some 6), none, .call 53 [(tm 5), (kc 1), (kc 8)] 4⟩,
 ⟨(some 7), none, .un .not (tm 6)⟩])
 (.ite (tm 7)
 (.seq
 (.ops [⟨(some 2), none, .mov (.const (.bool false))⟩])
 .ret)
 .skip))
 (.seq
 (.seq
 (.ops [⟨(some 3), none, .mov (kc 0)⟩])
 (.block 0
 (.loop
 (.seq
 (.seq
 (.ops [⟨(some 8), none, .mov (tm 3)⟩,
 ⟨(some 9), none, .mov (tm 0)⟩,
 ⟨(some 10), none, .len true 9 3 (tm 9)⟩,
 ⟨(some 11), none, .bin .lss 3 (tm 8) (tm 10)⟩])
 (.ite (tm 11)
 .skip
 (.exit 0)))
 (.seq
 (.block 1
 (.seq
 (.ops [⟨(some 14), none, .mov (tm 0)⟩,
 ⟨(some 15), none, .mov (tm 3)⟩,
 ⟨(some 16), none, .indexS 9 (tm 14) (tm 15)⟩,
 ⟨(some 17), none, .bin .lss 5 (tm 16) (.const (.int .u8 97))⟩,
 ⟨(some 18), none, .mov (tm 17)⟩,
 ⟨(some 19), some (18, false), .mov (tm 0)⟩,
 ⟨(some 20), some (18, false), .mov (tm 3)⟩,
 ⟨(some 21), some (18, false), .indexS 9 (tm 19) (tm 20)⟩,
 ⟨(some 22), some (18, false), .bin .gtr 5 (tm 21) (.const (.int .u8 122))⟩,
 ⟨(some 23), none, .pick (tm 18) (.const (.bool true)) (tm 22)⟩])
 (.ite (tm 23)
 (.seq
 (.ops [⟨(some 2), none, .mov (.const (.bool false))⟩])
 .ret)
 .skip)))
 (.ops [⟨(some 12), none, .mov (tm 3)⟩,
 ⟨(some 13), none, .bin .add 3 (tm 12) (kc 1)⟩,
 ⟨(some 3), none, .mov (tm 13)⟩]))))))
 (.seq
 (.ops [⟨(some 2), none, .mov (.const (.bool true))⟩])
 .ret))))
theorem fn123 : FnOK Try.prog 123 24 [.tmp 2] L123 := ⟨Try.f123, Try.func123, by kernel_rfl, Try.ntmps123, by rw [Try.results123], by kernel_rfl⟩
end Go.Px

namespace Go.Px
open Go.Proofs
theorem in_ev (n lo hi : Int) : Ev Try.prog 53 [I n, I lo, I hi] (B (decide (lo ≤ n) && decide (n ≤ hi))) := by
  refine Ev.intro fn53 ?_
  refine LWp.sx (gs := []) (hs := []) rfl trivial ?_
  by_cases h : lo ≤ n
  · refine LWp.sx (gs := [(10, true)]) (hs := []) rfl (by simp [h]) ?_
    refine LWp.ret (retT (.inr rfl) (.one (.tmp ?_ rfl)))
    show B _ = B _
    simp [h]
  · refine LWp.sx (gs := [(10, false)]) (hs := []) rfl (by simp [h]) ?_
    refine LWp.ret (retT (.inr rfl) (.one (.tmp ?_ rfl)))
    show B _ = B _
    simp [h]
theorem has_ev (l : List Int) (n : Int) : Ev Try.prog 46 [ints l, I n] (B (l.any (· == n))) := by
  refine Ev.intro fn46 ?_
  refine LWp.slLen 0 rfl fun ha => ?_
  simp only [List.length_map] at ha
  refine LWp.sx (gs := []) (hs := []) rfl trivial ?_
  refine LWp.sx (gs := []) (hs := []) rfl trivial ?_
  refine LWp.seq ?_
  refine LWp.sx (gs := []) (hs := []) rfl trivial ?_
  refine LWp.blockT (fun _ : Unit => True) (fun _ => el [(5, B (l.any (· == n)))]) (fun _ => []) (fun _ => []) ?_ ?_
  · refine LWp.loopN (fun k : Nat => k ≤ l.length) (fun k => el [(0, ints l), (1, I n), (5, B ((l.take k).any (· == n))), (6, I k)]) (fun _ => []) (fun _ => []) (fun k => l.length - k) 0 (by omega)
      (Ent.el ⟨rfl, rfl, rfl, rfl, trivial⟩) ?_
    intro k hk
    refine LWp.seq (LWp.seq ?_)
    refine LWp.x (gs := []) (hs := []) rfl trivial ?_
    refine LWp.ite rfl (fun hc => ?_) (fun hc => ?_)
    · simp only [List.length_map, decide_eq_true_eq, Int.ofNat_lt] at hc
      have hx : l[k]? = some l[k] := by simp
      refine LWp.skip (LWp.seq (LWp.block ?_))
      have ht : (l.take (k + 1)).any (· == n) = ((l.take k).any (· == n) || l[k] == n) := by
        rw [List.take_succ_eq_append_getElem hc, List.any_append]; simp
      cases hm : (l.take k).any (· == n) with
      | true =>
        rw [hm] at ht
        refine LWp.x (gs := [(14, true)]) (hs := []) rfl (by simp) ?_
        refine LWp.x (gs := []) (hs := []) rfl ⟨by omega, trivial⟩ ?_
        exact ⟨k + 1, hc, by omega, Ent.el ⟨rfl, rfl, by rw [ht]; rfl, rfl, trivial⟩⟩
      | false =>
        rw [hm] at ht
        refine LWp.x (gs := [(14, false)]) (hs := [.cells [I l[k]]]) rfl (by simp [hc]) ?_
        refine LWp.x (gs := []) (hs := []) rfl ⟨by omega, trivial⟩ ?_
        exact ⟨k + 1, hc, by omega, Ent.el ⟨rfl, rfl, by rw [ht]; rfl, rfl, trivial⟩⟩
    · simp only [List.length_map, decide_eq_false_iff_not, Int.ofNat_lt] at hc
      refine LWp.exit ⟨(), trivial, Ent.el ⟨?_, trivial⟩⟩
      show B _ = B _
      rw [List.take_of_length_le (by omega)]
  · intro _ _
    refine LWp.sx (gs := []) (hs := []) rfl trivial ?_
    refine LWp.ret (retT (.inr rfl) (.one (.tmp ?_ rfl)))
    rfl
end Go.Px

namespace Go.Px
open Go.Proofs
theorem inB_not (n lo hi : Int) : (!(decide (lo ≤ n) && decide (n ≤ hi))) = beyondB lo hi [n] := by
  rw [Bool.eq_iff_iff]; simp [beyondB]
theorem rname_ev (l : List UInt8) (hl : l.length ≤ 9223372036854775807) : Ev Try.prog 101 [Str l] (B (nameB l)) := by
  refine Ev.intro fn101 ?_
  refine LWp.sx (gs := []) (hs := []) rfl trivial ?_
  refine LWp.sx (gs := []) (hs := [.ret (B (decide (1 ≤ (l.length : Int)) && decide ((l.length : Int) ≤ 16)))]) rfl ⟨in_ev _ 1 16, trivial⟩ ?_
  refine LWp.seq (LWp.seq ?_)
  refine LWp.x (gs := []) (hs := []) rfl trivial ?_
  generalize hF : (decide (1 ≤ (l.length : Int)) && decide ((l.length : Int) ≤ 16)) = F
  have hnb : nameB l = (allN l 0 && F) := by
    unfold nameB
    rw [← hF]
    congr 1
    rw [Bool.eq_iff_iff]; simp; omega
  refine LWp.blockT (fun _ : Unit => True) (fun _ => el [(3, B (nameB l))]) (fun _ => []) (fun _ => []) ?_ ?_
  · refine LWp.loopN (X := Nat × Bool) (fun x => x.1 ≤ l.length ∧ nameB l = (allN (l.drop x.1) x.1 && x.2)) (fun x => el [(0, Str l), (3, B x.2), (4, I x.1)]) (fun _ => []) (fun _ => []) (fun x => l.length - x.1) (0, F) ⟨by simp, hnb⟩
      (Ent.el ⟨rfl, rfl, rfl, trivial⟩) ?_
    rintro ⟨k, f⟩ ⟨hk, hi⟩
    simp only at hk hi ⊢
    refine LWp.seq (LWp.seq ?_)
    refine LWp.x (gs := []) (hs := []) rfl trivial ?_
    refine LWp.ite rfl (fun hc => ?_) (fun hc => ?_)
    · simp only [decide_eq_true_eq] at hc
      have hc' : k < l.length := by have : ((k : Int) < (l.length : Int)) := hc; omega
      obtain ⟨c, hx⟩ := ex_get hc'
      rw [drop_cons hx, allN] at hi
      have hby : (⟨l.toArray⟩ : ByteArray).data.toList[((k : Nat) : Int).toNat]? = some c := by simpa using hx
      have hco : ∀ m : Int, IntKind.i64.wrap ((c.toNat : Nat) : Int) = c.toNat := by
        intro _
        exact i64_wrap (by omega) (by have := c.toNat_lt; omega)
      refine LWp.skip ?_
      refine LWp.blockX (fun _ : Unit => True) (fun _ => el [(0, Str l), (3, B (f && okc k c.toNat)), (4, I k)]) (fun _ => []) (fun _ => []) ?_ ?_
      · refine LWp.cutX (fun _ : Unit => True) (fun _ => el [(0, Str l), (3, B f), (4, I k), (5, B (decide (0 < k) && (c.toNat == 46 || (decide (48 ≤ c.toNat) && decide (c.toNat ≤ 57)))))]) (fun _ => []) (fun _ => []) ?_ ?_
        · by_cases h0 : 0 < k
          · by_cases h1 : c.toNat = 46
            · refine LWp.x (gs := [(17, true), (22, true)]) (hs := [.byte c]) rfl (by simp [h0, h1, hx]) ?_
              exact ⟨(), trivial, Ent.el ⟨rfl, rfl, rfl, by show B _ = B _; simp [h0, h1], trivial⟩⟩
            · have h1' : ¬ ((c.toNat : Int) = 46) := by omega
              refine LWp.x (gs := [(17, true), (22, false)]) (hs := [.byte c, .byte c, .ret (B (decide ((48 : Int) ≤ c.toNat) && decide ((c.toNat : Int) ≤ 57)))]) rfl (by simp [h0, h1', hx]; exact ⟨hco 0, in_ev _ 48 57⟩) ?_
              refine ⟨(), trivial, Ent.el ⟨rfl, rfl, rfl, ?_, trivial⟩⟩
              show B _ = B _
              have e : (decide ((48 : Int) ≤ c.toNat) && decide ((c.toNat : Int) ≤ 57)) = (decide (48 ≤ c.toNat) && decide (c.toNat ≤ 57)) := by rw [Bool.eq_iff_iff]; simp; omega
              rw [e]; simp [h0, h1]
          · have h0' : k = 0 := by omega
            subst h0'
            refine LWp.x (gs := [(17, false)]) (hs := []) rfl (by simp) ?_
            exact ⟨(), trivial, Ent.el ⟨rfl, rfl, rfl, by show B _ = B _; simp, trivial⟩⟩
        intro _ _
        generalize hg : (decide (0 < k) && (c.toNat == 46 || (decide (48 ≤ c.toNat) && decide (c.toNat ≤ 57)))) = g
        have hok : okc k c.toNat = ((decide (97 ≤ c.toNat) && decide (c.toNat ≤ 122)) || g) := by rw [← hg]; rfl
        cases f with
        | false =>
          refine LWp.x (gs := [(31, false)]) (hs := []) rfl (by simp) ?_
          exact ⟨(), trivial, Ent.el ⟨rfl, by show B _ = B _; simp, rfl, trivial⟩⟩
        | true =>
          have e : (decide ((97 : Int) ≤ c.toNat) && decide ((c.toNat : Int) ≤ 122)) = (decide (97 ≤ c.toNat) && decide (c.toNat ≤ 122)) := by rw [Bool.eq_iff_iff]; simp; omega
          rw [← e] at hok
          generalize hq : (decide ((97 : Int) ≤ c.toNat) && decide ((c.toNat : Int) ≤ 122)) = q at hok
          have hin : Ev Try.prog 53 [I c.toNat, I 97, I 122] (B q) := by rw [← hq]; exact in_ev _ 97 122
          cases q with
          | true =>
            refine LWp.x (gs := [(31, true), (37, true)]) (hs := [.byte c, .ret (B true)]) rfl (by simp [hx]; exact ⟨hco 0, hin⟩) ?_
            exact ⟨(), trivial, Ent.el ⟨rfl, by show B _ = B _; simp [hok], rfl, trivial⟩⟩
          | false =>
            refine LWp.x (gs := [(31, true), (37, false)]) (hs := [.byte c, .ret (B false)]) rfl (by simp [hx]; exact ⟨hco 0, hin⟩) ?_
            exact ⟨(), trivial, Ent.el ⟨rfl, by show B _ = B _; simp [hok], rfl, trivial⟩⟩
      intro _ _
      refine LWp.x (gs := []) (hs := []) rfl ⟨by omega, trivial⟩ ?_
      refine ⟨(k + 1, f && okc k c.toNat), ⟨hc', ?_⟩, by simp only; omega, Ent.el ⟨rfl, rfl, rfl, trivial⟩⟩
      rw [hi]
      cases f <;> cases okc k c.toNat <;> simp
    · simp only [decide_eq_false_iff_not] at hc
      have hc' : ¬ k < l.length := by have : ¬ ((k : Int) < (l.length : Int)) := hc; omega
      have hf : nameB l = f := by rw [hi, drop_nil hc']; simp [allN]
      exact LWp.exit ⟨(), trivial, Ent.el ⟨by rw [hf]; rfl, trivial⟩⟩
  · intro _ _
    refine LWp.sx (gs := []) (hs := []) rfl trivial ?_
    refine LWp.ret (retT (.inr rfl) (.one (.tmp ?_ rfl)))
    rfl
theorem where_ev (l : List (List UInt8)) (s : List UInt8) : Ev Try.prog 100 [strs l, Str s] (I (idxF (fun x => x == s) l 0)) := by
  refine Ev.intro fn100 ?_
  refine LWp.slLen 0 rfl fun ha => ?_
  simp only [List.length_map] at ha
  refine LWp.sx (gs := []) (hs := []) rfl trivial ?_
  refine LWp.sx (gs := []) (hs := []) rfl trivial ?_
  refine LWp.blockX (fun k : Nat => k ≤ l.length ∧ idxF (fun x => x == s) l 0 = if k = l.length then -1 else (k : Int)) (fun k => el [(0, strs l), (5, I k)]) (fun _ => []) (fun _ => []) ?_ ?_
  · refine LWp.loopN (fun k : Nat => k ≤ l.length ∧ idxF (fun x => x == s) l 0 = idxF (fun x => x == s) (l.drop k) k) (fun k => el [(0, strs l), (1, Str s), (5, I k)]) (fun _ => []) (fun _ => []) (fun k => l.length - k) 0 ⟨by omega, rfl⟩
      (Ent.el ⟨rfl, rfl, rfl, trivial⟩) ?_
    rintro k ⟨hk, hi⟩
    refine LWp.seq (LWp.seq ?_)
    by_cases hc : k < l.length
    · obtain ⟨x, hx⟩ := ex_get hc
      rw [drop_cons hx, idxF] at hi
      refine LWp.x (gs := [(10, true)]) (hs := [.cells [Str x]]) rfl (by simp [hc, (List.getElem?_eq_some_iff.1 hx).2]) ?_
      refine LWp.ite rfl (fun hb => ?_) (fun hb => ?_)
      · have hne : ¬ ((x == s) = true) := by
          have hb : (!((⟨x.toArray⟩ : ByteArray).toList == (⟨s.toArray⟩ : ByteArray).toList)) = true := hb
          intro h
          rw [eq_of_beq h] at hb
          simp at hb
        rw [if_neg hne] at hi
        refine LWp.skip (LWp.block ?_)
        refine LWp.x (gs := []) (hs := []) rfl ⟨by omega, trivial⟩ ?_
        exact ⟨k + 1, ⟨hc, hi⟩, by omega, Ent.el ⟨rfl, rfl, rfl, trivial⟩⟩
      · have heq : (x == s) = true := by
          have hb : (!((⟨x.toArray⟩ : ByteArray).toList == (⟨s.toArray⟩ : ByteArray).toList)) = false := hb
          simp at hb
          simpa using hb
        rw [if_pos heq] at hi
        exact LWp.exit ⟨k, ⟨hk, by rw [hi, if_neg (by omega)]⟩, Ent.el ⟨rfl, rfl, trivial⟩⟩
    · rw [drop_nil hc] at hi
      refine LWp.x (gs := [(10, false)]) (hs := []) rfl (by simp [hc]) ?_
      refine LWp.ite (b := false) rfl (fun hb => by cases hb) (fun hb => ?_)
      exact LWp.exit ⟨k, ⟨hk, by rw [hi, if_pos (by omega)]; rfl⟩, Ent.el ⟨rfl, rfl, trivial⟩⟩
  · rintro k ⟨hk, hi⟩
    refine LWp.seq (LWp.seq ?_)
    refine LWp.x (gs := []) (hs := []) rfl trivial ?_
    refine LWp.ite rfl (fun hb => ?_) (fun hb => ?_)
    · simp only [List.length_map, beq_iff_eq, Int.natCast_inj] at hb
      refine LWp.sx (gs := []) (hs := []) rfl trivial ?_
      refine LWp.ret (retT (.inr rfl) (.one (.tmp ?_ rfl)))
      rw [hi, if_pos hb]; rfl
    · simp only [List.length_map, beq_eq_false_iff_ne, ne_eq, Int.natCast_inj] at hb
      refine LWp.skip ?_
      refine LWp.sx (gs := []) (hs := []) rfl trivial ?_
      refine LWp.ret (retT (.inr rfl) (.one (.tmp ?_ rfl)))
      rw [hi, if_neg hb]; rfl
def freshE (s : List UInt8) (l : List (List UInt8)) : Int := if nameB s = true then (if l.any (fun x => x == s) = true then 5 else 0) else 6
theorem fresh_ev (s : List UInt8) (hl : s.length ≤ 9223372036854775807) (l : List (List UInt8)) : Ev Try.prog 62 [Str s, strs l] (I (freshE s l)) := by
  refine Ev.intro fn62 ?_
  refine LWp.sx (gs := []) (hs := []) rfl trivial ?_
  refine LWp.sx (gs := []) (hs := []) rfl trivial ?_
  refine LWp.cutX (fun _ : Unit => True) (fun _ => el [(0, Str s), (5, I (if l.any (fun x => x == s) = true then 5 else 0))]) (fun _ => []) (fun _ => []) ?_ ?_
  · refine LWp.sx (gs := []) (hs := [.ret (I (idxF (fun x => x == s) l 0))]) rfl ⟨where_ev l s, trivial⟩ ?_
    have hg := idxF_ge (fun x => x == s) l 0 (by omega)
    refine LWp.ite rfl (fun hb => ?_) (fun hb => ?_)
    · rw [hg] at hb
      refine LWp.x (gs := []) (hs := []) rfl trivial ?_
      exact ⟨(), trivial, Ent.el ⟨rfl, by rw [hb]; rfl, trivial⟩⟩
    · rw [hg] at hb
      exact LWp.skip ⟨(), trivial, Ent.el ⟨rfl, by rw [hb]; rfl, trivial⟩⟩
  intro _ _
  refine LWp.cutX (fun _ : Unit => True) (fun _ => el [(5, I (freshE s l))]) (fun _ => []) (fun _ => []) ?_ ?_
  · refine LWp.sx (gs := []) (hs := [.ret (B (nameB s))]) rfl ⟨rname_ev s hl, trivial⟩ ?_
    refine LWp.ite rfl (fun hb => ?_) (fun hb => ?_)
    · simp only [Bool.not_eq_true'] at hb
      refine LWp.x (gs := []) (hs := []) rfl trivial ?_
      exact ⟨(), trivial, Ent.el ⟨by simp only [freshE, hb, Bool.false_eq_true, if_false]; rfl, trivial⟩⟩
    · simp only [Bool.not_eq_false'] at hb
      exact LWp.skip ⟨(), trivial, Ent.el ⟨by simp only [freshE, hb, if_true]; rfl, trivial⟩⟩
  intro _ _
  refine LWp.sx (gs := []) (hs := []) rfl trivial ?_
  refine LWp.ret (retT (.inr rfl) (.one (.tmp ?_ rfl)))
  rfl
end Go.Px

namespace Go.Px
theorem fit_eq {s w : Wd} (h : s ≠ []) : fitB s w = true ↔ s = w := by
  simp [fitB, h]
theorem fit_refl (w : Wd) : fitB w w = true := by simp [fitB]
theorem fitL_eq {ss ws : List Wd} (h : NE ss) : fitL ss ws = true ↔ ss = ws := by
  induction ss generalizing ws with
  | nil => cases ws <;> simp [fitL]
  | cons s ss ih =>
    cases ws with
    | nil => simp [fitL]
    | cons w ws =>
      simp only [fitL, Bool.and_eq_true, List.cons.injEq]
      rw [fit_eq (h s (by simp)), ih h.tail]
end Go.Px

namespace Go.Px
theorem words_ne {l : List Wd} (h : wordsB l = true) : NE l := fun w hw => word_ne (List.all_eq_true.1 h w hw)
end Go.Px

namespace Go.Px
/-- A shape is of the words of what is put in. -/
theorem fit_blanks : ∀ (l : List Wd), fitL (blanks l.length) l = true
  | [] => rfl
  | w :: l => by simp only [blanks, List.length_cons, List.replicate_succ, fitL]; simp [fitB]; exact fit_blanks l
theorem fitL_append : ∀ {a b x y : List Wd}, a.length = x.length → fitL (a ++ b) (x ++ y) = (fitL a x && fitL b y)
  | [], b, [], y, _ => by simp [fitL]
  | s :: a, b, w :: x, y, h => by
    simp only [List.cons_append, fitL]
    rw [fitL_append (by simpa using h), Bool.and_assoc]
  | [], _, _ :: _, _, h => by simp at h
  | _ :: _, _, [], _, h => by simp at h
theorem fitL_self : ∀ l : List Wd, fitL l l = true
  | [] => rfl
  | w :: l => by simp [fitL, fit_refl, fitL_self l]
theorem built_fits : ∀ (ps : List Part) (fs : List (List Wd)), fs.length = (roomsL ps).length → fitL (shapeF ps (fs.map List.length)) (builtF ps fs) = true
  | [], _, _ => rfl
  | p :: ps, fs, h => by
    rw [roomsL_cons] at h
    simp only [shapeF, builtF]
    by_cases hp : p.roomy = true
    · rw [if_pos hp] at h ⊢
      rw [if_pos hp]
      cases fs with
      | nil => simp at h
      | cons f fs =>
        simp only [List.map_cons, List.headD_cons, List.tail_cons]
        rw [fitL_append (by simp [blanks]), fit_blanks, Bool.true_and]
        exact built_fits ps fs (by simpa using h)
    · rw [if_neg hp] at h ⊢
      rw [if_neg hp, fitL_append rfl, fitL_self, Bool.true_and]
      exact built_fits ps fs h
/-- What is put in is what a letter has there. -/
theorem filled_built : ∀ (ps : List Part) (ms : List Nat) (l : List Wd), ms.length = (roomsL ps).length → (∀ p ∈ ps, wordsB p.words = true) → fitL (shapeF ps ms) l = true → builtF ps (filledF ps ms l) = l ∧ (filledF ps ms l).map List.length = ms
  | [], ms, l, h, _, hf => by
    cases l with
    | nil =>
      simp only [roomsL, List.filter_nil, List.map_nil, List.length_nil, List.length_eq_zero_iff] at h
      subst h
      exact ⟨rfl, rfl⟩
    | cons w l => simp [shapeF, fitL] at hf
  | p :: ps, ms, l, h, hw, hf => by
    rw [roomsL_cons] at h
    simp only [shapeF] at hf
    by_cases hp : p.roomy = true
    · rw [if_pos hp] at h hf
      cases ms with
      | nil => simp at h
      | cons m ms =>
        simp only [List.headD_cons, List.tail_cons] at hf
        have hlen := fitL_len hf
        simp only [List.length_append, blanks, List.length_replicate] at hlen
        have hl : l = l.take m ++ l.drop m := (List.take_append_drop m l).symm
        rw [hl, fitL_append (by simp [blanks]; omega), Bool.and_eq_true] at hf
        obtain ⟨i1, i2⟩ := filled_built ps ms (l.drop m) (by simpa using h) (fun q hq => hw q (by simp [hq])) hf.2
        simp only [filledF, builtF, if_pos hp, List.headD_cons, List.tail_cons, List.map_cons, i1, i2, List.take_append_drop, List.length_take, true_and]
        rw [Nat.min_eq_left (by omega)]
    · rw [if_neg hp] at h hf
      have hlen := fitL_len hf
      simp only [List.length_append] at hlen
      have hl : l = l.take p.words.length ++ l.drop p.words.length := (List.take_append_drop _ l).symm
      rw [hl, fitL_append (by simp; omega), Bool.and_eq_true] at hf
      obtain ⟨i1, i2⟩ := filled_built ps ms (l.drop p.words.length) h (fun q hq => hw q (by simp [hq])) hf.2
      have e := (fitL_eq (words_ne (hw p (by simp)))).1 hf.1
      simp only [filledF, builtF, if_neg hp, i1, i2, and_true]
      conv => lhs; lhs; rw [e]
      exact List.take_append_drop _ l
end Go.Px

namespace Go.Px
theorem rooms_nn {ps : List Part} (h : ∀ p ∈ ps, PartV p) : RNN (roomsL ps) := fun r hr => (rooms_ok h r hr).1
/-- The first fills. -/
theorem ways_first {ps : List Part} {l : List Wd} {m k : List Nat} {ks : List (List Nat)} (h : waysF ps l = m :: ks) (hk : k ∈ waysF ps l) : k = m ∨ lessM m k = true := by
  rw [h] at hk
  rcases List.mem_cons.1 hk with rfl | hk
  · exact .inl rfl
  · right
    have hs : (waysF ps l).Pairwise (fun a b => lessM a b = true) := List.Pairwise.filter _ (cnts_sorted _)
    rw [h] at hs
    exact (List.pairwise_cons.1 hs).1 k hk
theorem ways_built {ps : List Part} (h : ∀ p ∈ ps, PartV p) {fs : List (List Wd)} (hf : InR (roomsL ps) (fs.map List.length)) : fs.map List.length ∈ waysF ps (builtF ps fs) := by
  have hm := (cnts_iff (rooms_nn h)).2 hf
  have hlen : fs.length = (roomsL ps).length := by
    have := cnts_len hm
    simpa using this
  exact List.mem_filter.2 ⟨hm, built_fits ps fs hlen⟩
end Go.Px

namespace Go.Px
open Go.Proofs
theorem built_words : ∀ (ps : List Part) (fs : List (List Wd)), (∀ p ∈ ps, wordsB p.words = true) → (∀ f ∈ fs, wordsB f = true) → wordsB (builtF ps fs) = true
  | [], _, _, _ => rfl
  | p :: ps, fs, hp, hf => by
    simp only [builtF]
    split
    · unfold wordsB
      rw [List.all_append, Bool.and_eq_true]
      refine ⟨?_, built_words ps fs.tail (fun q hq => hp q (by simp [hq])) (fun f h => hf f (List.mem_of_mem_tail h))⟩
      cases fs with
      | nil => rfl
      | cons f fs => exact hf f (by simp)
    · unfold wordsB
      rw [List.all_append, Bool.and_eq_true]
      exact ⟨hp p (by simp), built_words ps fs (fun q hq => hp q (by simp [hq])) hf⟩
section
variable {s : Shelf} (V : ShelfV s) {n : Nat} {f : Form} (hf : s.forms[n]? = some f)
include V hf
theorem formI_zero : formI s n = 0 := by
  have hlt := (List.getElem?_eq_some_iff.1 hf).1
  unfold formI
  rw [if_pos (shelf_iff.2 V), if_neg (by simp [beyondB]; omega)]
theorem partsOf_eq : partsOf s n = f.parts := by
  have _h := V
  unfold partsOf
  rw [Int.toNat_natCast, hf]
theorem form_v : FormV f := (V.forms f (List.mem_of_getElem? hf)).2
theorem make_ok {fs : List (List Wd)} (hin : InR (roomsL f.parts) (fs.map List.length)) (hw : ∀ x ∈ fs, wordsB x = true) : makeR s n fs = (builtF f.parts fs, 0) ∧ letterE (builtF f.parts fs) = 0 := by
  have F := form_v V hf
  have e : makeE s n fs = 0 := by
    unfold makeE
    rw [if_pos (formI_zero V hf), partsOf_eq V hf]
    exact putE_zero.2 ⟨hin, hw⟩
  refine ⟨by unfold makeR; rw [if_pos e, partsOf_eq V hf], ?_⟩
  rw [letter_zero]
  refine ⟨?_, built_words _ _ (fun p hp => (F.parts p hp).ok) hw⟩
  have h3 : ∀ x ∈ fs, x.length ≤ 3 := by
    intro x hx
    obtain ⟨i, hi⟩ := List.mem_iff_getElem?.1 hx
    have hl := inR_len hin
    rw [List.length_map] at hl
    obtain ⟨r, hr⟩ := ex_get (show i < (roomsL f.parts).length by have := (List.getElem?_eq_some_iff.1 hi).1; omega)
    have := (inR_get hin hr (m := x.length) (by rw [List.getElem?_map, hi]; rfl)).2
    have := (rooms_ok F.parts r (List.mem_of_getElem? hr)).2.2.2
    omega
  have := built_len f.parts fs (fun p hp => (F.parts p hp).w3) h3
  have := F.p5
  omega
theorem ofL_has (l : List Wd) (i : Nat) {g : Form} (hg : s.forms[i]? = some g) : ((i : Int) ∈ ofL s.forms l) ↔ waysF g.parts l ≠ [] := by
  have _h := And.intro V hf
  unfold ofL
  simp only [List.mem_map, List.mem_filter, List.mem_range, decide_eq_true_eq]
  constructor
  · rintro ⟨j, ⟨h1, h2⟩, e⟩
    have : j = i := by omega
    subst this
    rw [hg] at h2
    exact h2
  · intro h
    exact ⟨i, ⟨(List.getElem?_eq_some_iff.1 hg).1, by rw [hg]; exact h⟩, rfl⟩
/-- What is made of fills is of the form; what Fills returns makes it again. -/
theorem made_all {fs : List (List Wd)} (hin : InR (roomsL f.parts) (fs.map List.length)) (hw : ∀ x ∈ fs, wordsB x = true) :
    ∃ m ms, waysF f.parts (builtF f.parts fs) = m :: ms ∧ fillsR s n (builtF f.parts fs) = (filledF f.parts m (builtF f.parts fs), (((m :: ms).length : Nat) : Int), 0) ∧
      makeR s n (filledF f.parts m (builtF f.parts fs)) = (builtF f.parts fs, 0) ∧ (filledF f.parts m (builtF f.parts fs)).map List.length = m ∧ (fs.map List.length = m ∨ lessM m (fs.map List.length) = true) ∧ (ms = [] → fs.map List.length = m) := by
  have F := form_v V hf
  obtain ⟨_, hl⟩ := make_ok V hf hin hw
  have hwy := ways_built F.parts hin
  cases hways : waysF f.parts (builtF f.parts fs) with
  | nil => rw [hways] at hwy; cases hwy
  | cons m ms =>
    have hm : m ∈ waysF f.parts (builtF f.parts fs) := by rw [hways]; simp
    obtain ⟨m1, m2⟩ := List.mem_filter.1 hm
    have hmi := (cnts_iff (rooms_nn F.parts)).1 m1
    obtain ⟨b1, b2⟩ := filled_built f.parts m (builtF f.parts fs) (inR_len hmi) (fun p hp => (F.parts p hp).ok) m2
    refine ⟨m, ms, rfl, ?_, ?_, b2, ways_first hways hwy, ?_⟩
    · unfold fillsR thenE
      rw [formI_zero V hf, if_pos rfl, if_pos hl, partsOf_eq V hf, hways]
    · have hbw : ∀ x ∈ filledF f.parts m (builtF f.parts fs), wordsB x = true := by
        have key : ∀ (ps : List Part) (m : List Nat) (l : List Wd), wordsB l = true → ∀ x ∈ filledF ps m l, wordsB x = true := by
          intro ps
          induction ps with
          | nil => intro m l _ x hx; cases hx
          | cons p ps ih =>
            intro m l hl x hx
            have hd : ∀ k, wordsB (l.drop k) = true := fun k => List.all_eq_true.2 fun w hw => List.all_eq_true.1 hl w (List.mem_of_mem_drop hw)
            have ht : ∀ k, wordsB (l.take k) = true := fun k => List.all_eq_true.2 fun w hw => List.all_eq_true.1 hl w (List.mem_of_mem_take hw)
            simp only [filledF] at hx
            split at hx
            · rcases List.mem_cons.1 hx with rfl | hx
              · exact ht _
              · exact ih _ _ (hd _) x hx
            · exact ih _ _ (hd _) x hx
        exact key _ _ _ (letter_zero.1 hl).2
      have := (make_ok V hf (fs := filledF f.parts m (builtF f.parts fs)) (by rw [b2]; exact hmi) hbw).1
      rw [b1] at this
      exact this
    · intro hms
      rw [hways, hms, List.mem_singleton] at hwy
      exact hwy
end
end Go.Px

namespace Go.Px
open Go.Proofs
def turnF (x : List UInt8) (n : Nat) : Int := match x[n % x.length]? with | some c => (c.toNat : Int) | none => 0
theorem turnF_nn (x : List UInt8) (n : Nat) : 0 ≤ turnF x n := by
  unfold turnF
  split <;> omega
theorem turnF_le (x : List UInt8) (n : Nat) : turnF x n ≤ 255 := by
  unfold turnF
  split
  · rename_i c _
    have := c.toNat_lt
    omega
  · omega
/-- The words of which letters are made. -/
def saidL : List Wd := [[97], [105], [97, 115, 107], [116, 111], [116, 104, 101], [98], [106, 117, 100, 103, 101], [109, 101, 114, 99, 121]]
def saidW (t : Int) : Wd := (saidL[(t % 8).toNat]?).getD []
theorem saidL_ok : saidL.all wordB = true := by decide +kernel
theorem saidW_get (t : Int) : saidL[(t % 8).toNat]? = some (saidW t) := by
  have h : (t % 8).toNat < saidL.length := by
    show _ < 8
    omega
  obtain ⟨w, hw⟩ := ex_get h
  unfold saidW
  rw [hw]; rfl
theorem saidW_ok (t : Int) : wordB (saidW t) = true := List.all_eq_true.1 saidL_ok _ (List.mem_of_getElem? (saidW_get t))
def anyRoom (x : List UInt8) (at_ many : Nat) : List Wd := (List.range many).map fun k => saidW (turnF x (at_ + k))
def anyMany (x : List UInt8) (r : Int × Int) (at_ : Nat) : Nat := (r.1 + turnF x at_ % (r.2 - r.1 + 1)).toNat
def anyF (x : List UInt8) : List (Int × Int) → Nat → List (List Wd)
  | [], _ => []
  | r :: rs, at_ => anyRoom x (at_ + 1) (anyMany x r at_) :: anyF x rs (at_ + 1 + anyMany x r at_)
theorem anyMany_in (x : List UInt8) {r : Int × Int} (at_ : Nat) (h0 : 0 ≤ r.1) (h1 : r.1 ≤ r.2) : r.1 ≤ anyMany x r at_ ∧ (anyMany x r at_ : Int) ≤ r.2 := by
  have h2 := Int.emod_nonneg (turnF x at_) (b := r.2 - r.1 + 1) (by omega)
  have h3 := Int.emod_lt_of_pos (turnF x at_) (b := r.2 - r.1 + 1) (by omega)
  unfold anyMany
  omega
theorem anyF_in (x : List UInt8) : ∀ (rs : List (Int × Int)) (at_ : Nat), (∀ r ∈ rs, 0 ≤ r.1 ∧ r.1 ≤ r.2) → InR rs ((anyF x rs at_).map List.length)
  | [], _, _ => trivial
  | r :: rs, at_, h => by
    obtain ⟨h0, h1⟩ := h r (by simp)
    refine ⟨?_, anyF_in x rs _ (fun q hq => h q (by simp [hq]))⟩
    have e : (anyRoom x (at_ + 1) (anyMany x r at_)).length = anyMany x r at_ := by simp [anyRoom]
    rw [e]
    exact anyMany_in x at_ h0 h1
theorem anyF_words (x : List UInt8) : ∀ (rs : List (Int × Int)) (at_ : Nat), ∀ f ∈ anyF x rs at_, wordsB f = true
  | [], _, f, h => by cases h
  | r :: rs, at_, f, h => by
    simp only [anyF, List.mem_cons] at h
    rcases h with rfl | h
    · refine List.all_eq_true.2 fun w hw => ?_
      obtain ⟨k, _, rfl⟩ := List.mem_map.1 hw
      exact saidW_ok _
    · exact anyF_words x rs _ f h
end Go.Px

namespace Go.Px
open Go.Proofs
theorem inB_of (n lo hi : Int) : (decide (lo ≤ n) && decide (n ≤ hi)) = !beyondB lo hi [n] := by
  rw [← inB_not]; simp
theorem rWord_ev (l : Wd) : Ev Try.prog 123 [Str l] (B (wordB l)) := by
  refine Ev.intro fn123 ?_
  refine LWp.sx (gs := []) (hs := []) rfl trivial ?_
  have hin := in_ev l.length 1 8
  rw [inB_of] at hin
  refine LWp.seq (LWp.seq ?_)
  refine LWp.x (gs := []) (hs := [.ret (B (!beyondB 1 8 [(l.length : Int)]))]) rfl ⟨hin, trivial⟩ ?_
  have hwe := wordB_eq l
  have hb8 : beyondB 1 8 [(l.length : Int)] = false → l.length ≤ 8 := fun h => by simp [beyondB] at h; omega
  generalize beyondB 1 8 [(l.length : Int)] = bb at hwe hb8
  refine LWp.ite rfl (fun h => ?_) (fun h => LWp.skip ?_)
  · have h : bb = true := by simpa using h
    refine LWp.sx (gs := []) (hs := []) rfl trivial ?_
    refine LWp.ret (retT (.inr rfl) (.one (.tmp ?_ rfl)))
    rw [hwe, h]; rfl
  · have h : bb = false := by simpa using h
    have hl8 := hb8 h
    rw [h, Bool.not_false, Bool.true_and] at hwe
    refine LWp.seq (LWp.seq ?_)
    refine LWp.x (gs := []) (hs := []) rfl trivial ?_
    refine LWp.blockT (fun _ : Unit => l.all (fun c => lowB c.toNat) = true) (fun _ => el []) (fun _ => []) (fun _ => []) ?_ ?_
    · refine LWp.loopN (fun k : Nat => k ≤ l.length ∧ l.all (fun c => lowB c.toNat) = (l.drop k).all (fun c => lowB c.toNat)) (fun k => el [(0, Str l), (3, I k)]) (fun _ => []) (fun _ => []) (fun k => l.length - k) 0 ⟨by omega, rfl⟩
        (Ent.el ⟨rfl, rfl, trivial⟩) ?_
      rintro k ⟨hk, hi⟩
      refine LWp.seq (LWp.seq ?_)
      refine LWp.x (gs := []) (hs := []) rfl trivial ?_
      refine LWp.ite rfl (fun hc => ?_) (fun hc => ?_)
      · have hc : k < l.length := by simpa [ByteArray.size] using hc
        obtain ⟨c, hcc⟩ := ex_get hc
        rw [drop_cons hcc, List.all_cons] at hi
        refine LWp.skip ?_
        refine LWp.blockX (fun _ : Unit => lowB c.toNat = true) (fun _ => el [(0, Str l), (3, I k)]) (fun _ => []) (fun _ => []) ?_ ?_
        · have hby : (⟨l.toArray⟩ : ByteArray).data.toList[((k : Nat) : Int).toNat]? = some c := by simpa using hcc
          refine LWp.seq ?_
          by_cases h1 : (c.toNat : Int) < 97
          · have g1 : decide ((c.toNat : Int) < 97) = true := decide_eq_true h1
            refine LWp.x (gs := [(18, true)]) (hs := [.byte c]) rfl (by (repeat' (with_reducible apply And.intro)); (all_goals try first | (with_reducible exact trivial) | (with_reducible rfl) | (with_reducible assumption) | ((with_reducible apply isB); first | exact rfl | exact beq_self_eq_true _)); exact (by omega)) ?_
            refine LWp.ite (b := true) rfl (fun _ => ?_) (fun h => by cases h)
            refine LWp.sx (gs := []) (hs := []) rfl trivial ?_
            refine LWp.ret (retT (.inr rfl) (.one (.tmp ?_ rfl)))
            have : lowB c.toNat = false := by simp [lowB]; omega
            rw [hwe, hi, this]; rfl
          · have g1 : decide ((c.toNat : Int) < 97) = false := decide_eq_false h1
            refine LWp.x (gs := [(18, false)]) (hs := [.byte c, .byte c]) rfl (by (repeat' (with_reducible apply And.intro)); (all_goals try first | (with_reducible exact trivial) | (with_reducible rfl) | (with_reducible assumption) | ((with_reducible apply isB); first | exact rfl | exact beq_self_eq_true _)); exact (by omega); exact (by omega)) ?_
            refine LWp.ite rfl (fun h2 => ?_) (fun h2 => LWp.skip ?_)
            · refine LWp.sx (gs := []) (hs := []) rfl trivial ?_
              refine LWp.ret (retT (.inr rfl) (.one (.tmp ?_ rfl)))
              have : lowB c.toNat = false := by simp at h2; simp [lowB]; omega
              rw [hwe, hi, this]; rfl
            · refine ⟨(), ?_, Ent.el ⟨rfl, rfl, trivial⟩⟩
              simp at h2; simp [lowB]; omega
        · intro _ hl
          refine LWp.x (gs := []) (hs := []) rfl ⟨by omega, trivial⟩ ?_
          exact ⟨k + 1, ⟨by omega, by rw [hi, hl, Bool.true_and]⟩, by omega, Ent.el ⟨rfl, rfl, trivial⟩⟩
      · have hc : ¬ k < l.length := by simpa [ByteArray.size] using hc
        refine LWp.exit ⟨(), ?_, Ent.el trivial⟩
        rw [hi, drop_nil hc]; rfl
    · intro _ hl
      refine LWp.sx (gs := []) (hs := []) rfl trivial ?_
      refine LWp.ret (retT (.inr rfl) (.one (.tmp ?_ rfl)))
      rw [hwe, hl]
      rfl
theorem rwords_ev (l : List Wd) : Ev Try.prog 95 [strs l] (B (wordsB l)) := by
  refine Ev.intro fn95 ?_
  refine LWp.slLen 0 rfl fun hll => ?_
  simp only [List.length_map] at hll
  refine LWp.sx (gs := []) (hs := []) rfl trivial ?_
  refine LWp.sx (gs := []) (hs := []) rfl trivial ?_
  refine LWp.seq (LWp.seq ?_)
  refine LWp.x (gs := []) (hs := []) rfl trivial ?_
  refine LWp.blockT (fun _ : Unit => True) (fun _ => el [(3, B (wordsB l))]) (fun _ => []) (fun _ => []) ?_ ?_
  · refine LWp.loopN (X := Nat × Bool) (fun x => x.1 ≤ l.length ∧ wordsB l = (x.2 && wordsB (l.drop x.1))) (fun x => el [(0, strs l), (3, B x.2), (4, I x.1)]) (fun _ => []) (fun _ => []) (fun x => l.length - x.1) (0, true) ⟨by simp, by simp⟩
      (Ent.el ⟨rfl, rfl, rfl, trivial⟩) ?_
    rintro ⟨k, f⟩ ⟨hk, hi⟩
    simp only at hk hi ⊢
    refine LWp.seq (LWp.seq ?_)
    refine LWp.x (gs := []) (hs := []) rfl trivial ?_
    refine LWp.ite rfl (fun hc => ?_) (fun hc => ?_)
    · simp only [List.length_map, decide_eq_true_eq, Int.ofNat_lt] at hc
      obtain ⟨s, hs⟩ := ex_get hc
      rw [drop_cons hs] at hi
      have hi : wordsB l = ((f && wordB s) && wordsB (l.drop (k + 1))) := by rw [hi, Bool.and_assoc]; rfl
      refine LWp.skip ?_
      refine LWp.blockX (fun _ : Unit => True) (fun _ => el [(0, strs l), (3, B (f && wordB s)), (4, I k)]) (fun _ => []) (fun _ => []) ?_ ?_
      · cases f with
        | false =>
          refine LWp.x (gs := [(12, false)]) (hs := []) rfl (by (repeat' (with_reducible apply And.intro)); (all_goals try first | (with_reducible exact trivial) | (with_reducible rfl) | (with_reducible assumption) | ((with_reducible apply isB); first | exact rfl | exact beq_self_eq_true _))) ?_
          exact ⟨(), trivial, Ent.el ⟨rfl, rfl, rfl, trivial⟩⟩
        | true =>
          refine LWp.x (gs := [(12, true)]) (hs := [.cells [Str s], .ret (B (wordB s))]) rfl (by (repeat' (with_reducible apply And.intro)); (all_goals try first | (with_reducible exact trivial) | (with_reducible rfl) | (with_reducible assumption) | ((with_reducible apply isB); first | exact rfl | exact beq_self_eq_true _)); exact (by omega); exact (by simp [hs]); exact rWord_ev s) ?_
          exact ⟨(), trivial, Ent.el ⟨rfl, rfl, rfl, trivial⟩⟩
      · intro _ _
        refine LWp.x (gs := []) (hs := []) rfl ⟨by omega, trivial⟩ ?_
        exact ⟨(k + 1, f && wordB s), ⟨by simp only; omega, hi⟩, by simp only; omega, Ent.el ⟨rfl, rfl, rfl, trivial⟩⟩
    · simp only [List.length_map, decide_eq_false_iff_not, Int.ofNat_lt] at hc
      refine LWp.exit ⟨(), trivial, Ent.el ⟨?_, trivial⟩⟩
      rw [hi, drop_nil hc]
      show B _ = B _
      simp [wordsB]
  · intro _ _
    refine LWp.sx (gs := []) (hs := []) rfl trivial ?_
    refine LWp.ret (retT (.inr rfl) (.one (.tmp ?_ rfl)))
    rfl
theorem roomy_ev (p : Part) : Ev Try.prog 55 [.agg p.enc] (B p.roomy) := by
  refine Ev.intro fn55 ?_
  refine LWp.sx (gs := []) (hs := [.ice]) rfl ⟨⟨rfl, rfl⟩, trivial⟩ ?_
  refine LWp.sx (gs := []) (hs := []) rfl trivial ?_
  refine LWp.ret (retT (.inr rfl) (.one (.tmp ?_ rfl)))
  show B _ = B _
  congr 2
  unfold Part.roomy
  rw [Bool.eq_iff_iff]
  simp
end Go.Px

namespace Go.Px
open Go.Proofs
theorem rpart_ev (p : Part) (hw : p.wf) : Ev Try.prog 63 [.agg p.enc] (I (partE p)) := by
  have hlo := wf_i64 hw.lo0 hw.lo1
  have hhi := wf_i64 hw.hi0 hw.hi1
  have h00 := wf_i64 (n := 0) (by decide) (by decide)
  have hln : (p.words.map fun s => [Str s]).length = p.words.length := List.length_map _
  refine Ev.intro fn63 ?_
  unfold partE
  refine LWp.sx (gs := []) (hs := [.ice]) rfl ⟨⟨rfl, rfl⟩, trivial⟩ ?_
  refine LWp.seq (LWp.seq ?_)
  refine LWp.x (gs := []) (hs := []) rfl trivial ?_
  refine LWp.ite rfl (fun h => ?_) (fun h => LWp.skip ?_)
  · have h : 3 < p.words.length := by simp at h; omega
    rw [if_pos h]
    refine LWp.sx (gs := []) (hs := []) rfl trivial ?_
    refine LWp.ret (retT (.inr rfl) (.one (.tmp ?_ rfl)))
    rfl
  have h : ¬ 3 < p.words.length := by simp at h; omega
  rw [if_neg h]
  refine LWp.seq (LWp.seq ?_)
  refine LWp.x (gs := []) (hs := [.ret (B (wordsB p.words))]) rfl ⟨rwords_ev _, trivial⟩ ?_
  refine LWp.ite rfl (fun hws => ?_) (fun hws => LWp.skip ?_)
  · have hws : wordsB p.words = false := by simpa using hws
    rw [if_neg (by simp [hws])]
    refine LWp.sx (gs := []) (hs := []) rfl trivial ?_
    refine LWp.ret (retT (.inr rfl) (.one (.tmp ?_ rfl)))
    rfl
  have hws : wordsB p.words = true := by simpa using hws
  rw [if_pos hws]
  refine LWp.seq (LWp.seq ?_)
  refine LWp.x (gs := []) (hs := [.ret (B p.roomy)]) rfl ⟨roomy_ev p, trivial⟩ ?_
  refine LWp.ite rfl (fun hr => ?_) (fun hr => LWp.skip ?_)
  · have hr : p.words ≠ [] := by simpa [Part.roomy] using hr
    rw [if_pos hr]
    refine LWp.seq (LWp.seq ?_)
    refine LWp.x (gs := []) (hs := [.op (B (!decide (p.lo = 0 ∧ p.hi = 0)))]) rfl (by (repeat' (with_reducible apply And.intro)); (all_goals try first | (with_reducible exact trivial) | (with_reducible rfl) | (with_reducible assumption) | ((with_reducible apply isB); first | exact rfl | exact beq_self_eq_true _)); exact op_span (neg := true) hlo hhi h00 h00 rfl rfl) ?_
    refine LWp.ite rfl (fun h0 => ?_) (fun h0 => LWp.skip ?_)
    · have h0 : ¬ (p.lo = 0 ∧ p.hi = 0) := by intro e; simp [e.1, e.2] at h0
      rw [if_neg h0]
      refine LWp.sx (gs := []) (hs := []) rfl trivial ?_
      refine LWp.ret (retT (.inr rfl) (.one (.tmp ?_ rfl)))
      rfl
    · have h0 : p.lo = 0 ∧ p.hi = 0 := by simpa using h0
      rw [if_pos h0]
      refine LWp.sx (gs := []) (hs := []) rfl trivial ?_
      refine LWp.ret (retT (.inr rfl) (.one (.tmp ?_ rfl)))
      rfl
  have hr : ¬ p.words ≠ [] := by
    have : p.roomy = true := by simpa using hr
    simpa [Part.roomy] using this
  rw [if_neg hr]
  have e1 := in_ev p.lo 0 3
  have e2 := in_ev p.hi 1 3
  have hb : (beyondB 0 3 [p.lo, p.hi] || decide (p.hi = 0)) = (!(decide (0 ≤ p.lo) && decide (p.lo ≤ 3)) || !(decide (1 ≤ p.hi) && decide (p.hi ≤ 3))) := by
    rw [Bool.eq_iff_iff]; simp [beyondB]; omega
  rw [hb]
  generalize (decide (0 ≤ p.lo) && decide (p.lo ≤ 3)) = b1 at e1
  generalize (decide (1 ≤ p.hi) && decide (p.hi ≤ 3)) = b2 at e2
  refine LWp.seq (LWp.seq ?_)
  refine LWp.cutT (fun _ : Unit => True) (fun _ => el [(1, .pi p.enc), (29, B (!b1 || !b2))]) (fun _ => []) (fun _ => []) ?_ (fun _ _ => ?_)
  · cases b1 with
    | true =>
      refine LWp.x (gs := [(23, false)]) (hs := [.ret (B true), .ret (B b2)]) rfl (by (repeat' (with_reducible apply And.intro)); (all_goals try first | (with_reducible exact trivial) | (with_reducible rfl) | (with_reducible assumption) | ((with_reducible apply isB); first | exact rfl | exact beq_self_eq_true _)); exact e1; exact e2) ?_
      exact ⟨(), trivial, Ent.el ⟨rfl, rfl, trivial⟩⟩
    | false =>
      refine LWp.x (gs := [(23, true)]) (hs := [.ret (B false)]) rfl (by (repeat' (with_reducible apply And.intro)); (all_goals try first | (with_reducible exact trivial) | (with_reducible rfl) | (with_reducible assumption) | ((with_reducible apply isB); first | exact rfl | exact beq_self_eq_true _)); exact e1) ?_
      exact ⟨(), trivial, Ent.el ⟨rfl, rfl, trivial⟩⟩
  refine LWp.ite rfl (fun hq => ?_) (fun hq => LWp.skip ?_)
  · rw [if_pos hq]
    refine LWp.sx (gs := []) (hs := []) rfl trivial ?_
    refine LWp.ret (retT (.inr rfl) (.one (.tmp ?_ rfl)))
    rfl
  rw [if_neg (by simp [hq])]
  refine LWp.seq (LWp.seq ?_)
  refine LWp.x (gs := []) (hs := []) rfl trivial ?_
  refine LWp.ite rfl (fun h => ?_) (fun h => LWp.skip ?_)
  · have h : p.hi < p.lo := by simpa using h
    rw [if_pos h]
    refine LWp.sx (gs := []) (hs := []) rfl trivial ?_
    refine LWp.ret (retT (.inr rfl) (.one (.tmp ?_ rfl)))
    rfl
  · have h : ¬ p.hi < p.lo := by simpa using h
    rw [if_neg h]
    refine LWp.sx (gs := []) (hs := []) rfl trivial ?_
    refine LWp.ret (retT (.inr rfl) (.one (.tmp ?_ rfl)))
    rfl
end Go.Px

namespace Go.Px
open Go.Proofs
theorem rcheck_ev (s : Shelf) (hw : s.wf) : Ev Try.prog 17 [.agg s.enc] (.tup [I (checkS s).1, I (checkS s).2.1, I (checkS s).2.2]) := by
  refine Ev.intro fn17 ?_
  have hfl : (s.forms.map Form.enc).length = s.forms.length := List.length_map _
  have res : ∀ {env : Env} {H : Heap} {p q r : Int}, checkS s = (p, q, r) → env 2 = I p → env 3 = I q → env 4 = I r → retP Try.prog [.tmp 2, .tmp 3, .tmp 4] (.tup [I (checkS s).1, I (checkS s).2.1, I (checkS s).2.2]) .ret env H [] := by
    intro env H p q r h h2 h3 h4
    rw [h]
    exact retT (.inr rfl) (.many (by decide) ⟨.tmp h2 rfl, .tmp h3 rfl, .tmp h4 rfl, trivial⟩)
  refine LWp.sx (gs := []) (hs := [.ice]) rfl ⟨⟨rfl, rfl⟩, trivial⟩ ?_
  refine LWp.seq (LWp.seq ?_)
  refine LWp.x (gs := []) (hs := [.ret (B (decide (8 ≤ s.w) && decide (s.w ≤ 30)))]) rfl ⟨in_ev _ 8 30, trivial⟩ ?_
  refine LWp.ite rfl (fun hc => ?_) (fun hc => ?_)
  · rw [inB_not] at hc
    refine LWp.sx (gs := []) (hs := []) rfl trivial ?_
    exact LWp.ret (res (p := 1) (q := 0) (r := 7) (by simp only [checkS, hc, if_true]) rfl rfl rfl)
  rw [inB_not] at hc
  refine LWp.skip (LWp.seq (LWp.seq ?_))
  refine LWp.x (gs := []) (hs := []) rfl trivial ?_
  refine LWp.ite rfl (fun hd => ?_) (fun hd => ?_)
  · have hd : 4 < s.forms.length := by simp at hd; omega
    refine LWp.sx (gs := []) (hs := []) rfl trivial ?_
    exact LWp.ret (res (p := 2) (q := 0) (r := 3) (by simp only [checkS, hc, hd, if_true, if_false, Bool.false_eq_true]) rfl rfl rfl)
  have hd : ¬ 4 < s.forms.length := by simp at hd; omega
  refine LWp.skip ?_
  have hck : checkS s = if (failF (formE s.forms) s.forms.length 0).2 = 0 then (0, 0, 0) else (2, (failF (formE s.forms) s.forms.length 0).1, (failF (formE s.forms) s.forms.length 0).2) := by
    simp only [checkS, hc, hd, if_false, Bool.false_eq_true]
  refine LWp.sx (gs := []) (hs := []) rfl trivial ?_
  refine LWp.seq (LWp.seq ?_)
  refine LWp.x (gs := []) (hs := []) rfl trivial ?_
  refine LWp.blockT (fun _ : Unit => (failF (formE s.forms) s.forms.length 0).2 = 0) (fun _ => el []) (fun _ => []) (fun _ => []) ?_ ?_
  · refine LWp.loopN (fun k : Nat => k ≤ s.forms.length ∧ failF (formE s.forms) s.forms.length 0 = failF (formE s.forms) (s.forms.length - k) k) (fun k => el [(1, .pi s.enc), (5, .lin 9 1 (((s.forms.take k).map (·.name)).map fun s => [Str s])), (6, I k)]) (fun _ => []) (fun _ => []) (fun k => s.forms.length - k) 0 ⟨by omega, rfl⟩
      (Ent.trans (Ent.nilLin (t := 5) 9 1 rfl) (Ent.el ⟨rfl, rfl, rfl, trivial⟩)) ?_
    rintro k ⟨hk, hi⟩
    refine LWp.seq (LWp.seq ?_)
    refine LWp.x (gs := []) (hs := []) rfl trivial ?_
    refine LWp.ite rfl (fun he => ?_) (fun he => ?_)
    · simp only [List.length_map, decide_eq_true_eq, Int.ofNat_lt] at he
      obtain ⟨f, hf⟩ := ex_get he
      have hfw := hw.forms f (List.mem_of_getElem? hf)
      have hpl : (f.parts.map Part.enc).length = f.parts.length := List.length_map _
      rw [failF_step he] at hi
      have hfe : formE s.forms k = if freshE f.name ((s.forms.take k).map (·.name)) = 0 then (if 5 < f.parts.length then 3 else (failF (partsE f.parts) f.parts.length 0).2) else freshE f.name ((s.forms.take k).map (·.name)) := by
        simp only [formE, hf, freshE, List.any_map]
        by_cases g1 : nameB f.name = true
        · simp only [g1, if_true]
          have e : (s.forms.take k).any ((fun x => x == f.name) ∘ fun x => x.name) = (s.forms.take k).any (fun x => x.name == f.name) := rfl
          rw [e]
          by_cases g2 : (s.forms.take k).any (fun x => x.name == f.name) = true
          · simp [g2]
          · simp [g2]
        · simp [g1]
      refine LWp.skip ?_
      refine LWp.blockX (fun _ : Unit => formE s.forms k = 0) (fun _ => el [(1, .pi s.enc), (5, .lin 9 1 (((s.forms.take (k + 1)).map (·.name)).map fun s => [Str s])), (6, I k)]) (fun _ => []) (fun _ => []) ?_ ?_
      · generalize hnm : (s.forms.take k).map (·.name) = nm at hfe
        have hnl : nm.length ≤ 4 := by rw [← hnm]; simp; omega
        have hns : (s.forms.take (k + 1)).map (·.name) = nm ++ [f.name] := by
          rw [List.take_add_one, hf, List.map_append, hnm]; rfl
        rw [hns]
        refine LWp.sx (gs := []) (hs := [.cells f.enc, .lin]) rfl ⟨⟨by omega, by simp [hf]⟩, rfl, ⟨rfl, rfl, rfl, by decide⟩, trivial⟩ ?_
        refine LWp.ent (Ent.freezeLbox (t := 7) rfl) ?_
        refine LWp.peek 5 rfl (fun ad cap => ?_)
        refine LWp.sx (gs := []) (hs := [.retB [Str f.name, strs nm] (I (freshE f.name nm))]) rfl ⟨⟨fresh_ev f.name hfw.name nm, rfl, .refl _, .linV (u := 5) rfl rfl, trivial⟩, trivial⟩ ?_
        refine LWp.sx (gs := []) (hs := [.ice, .own 5]) rfl ⟨rfl, ⟨⟨rfl, rfl, rfl⟩, by simp [chunk]; omega, by simp [chunk]; omega⟩, trivial⟩ ?_
        generalize freshE f.name nm = e0 at hfe
        refine LWp.cutX (fun _ : Unit => True) (fun _ => el [(1, .pi s.enc), (5, .lin 9 1 ((nm ++ [f.name]).map fun s => [Str s])), (6, I k), (7, .pi f.enc), (8, I (if e0 = 0 then (if 5 < f.parts.length then 3 else 0) else e0))]) (fun _ => []) (fun _ => []) ?_ ?_
        · by_cases g : e0 = 0
          · subst g
            refine LWp.sx (gs := [(41, true)]) (hs := []) rfl (by simp) ?_
            refine LWp.ite rfl (fun h3 => ?_) (fun h3 => ?_)
            · have h3 : 5 < f.parts.length := by simp at h3; omega
              refine LWp.x (gs := []) (hs := []) rfl trivial ?_
              exact ⟨(), trivial, Ent.el ⟨rfl, by show AV.lin _ _ _ = _; rw [List.map_append]; rfl, rfl, rfl, by rw [if_pos rfl, if_pos h3]; rfl, trivial⟩⟩
            · have h3 : ¬ 5 < f.parts.length := by simp at h3; omega
              exact LWp.skip ⟨(), trivial, Ent.el ⟨rfl, by show AV.lin _ _ _ = _; rw [List.map_append]; rfl, rfl, rfl, by rw [if_pos rfl, if_neg h3]; rfl, trivial⟩⟩
          · have g1 : (e0 == 0) = false := by simpa using g
            refine LWp.sx (gs := [(41, false)]) (hs := []) rfl (by simp [g1]) ?_
            refine LWp.ite (b := false) rfl (fun h => by cases h) (fun _ => ?_)
            exact LWp.skip ⟨(), trivial, Ent.el ⟨rfl, by show AV.lin _ _ _ = _; rw [List.map_append]; rfl, rfl, rfl, by rw [if_neg g]; rfl, trivial⟩⟩
        intro _ _
        refine LWp.seq (LWp.seq ?_)
        refine LWp.x (gs := []) (hs := []) rfl trivial ?_
        refine LWp.blockT (fun _ : Unit => True) (fun _ => el [(1, .pi s.enc), (5, .lin 9 1 ((nm ++ [f.name]).map fun s => [Str s])), (6, I k), (7, .pi f.enc), (8, I (formE s.forms k))]) (fun _ => []) (fun _ => []) ?_ ?_
        · refine LWp.loopN (fun x : Nat × Int => x.1 ≤ f.parts.length ∧ (x.2 = 0 → f.parts.length ≤ 5) ∧ formE s.forms k = if x.2 = 0 then (failF (partsE f.parts) (f.parts.length - x.1) x.1).2 else x.2) (fun x => el [(1, .pi s.enc), (5, .lin 9 1 ((nm ++ [f.name]).map fun s => [Str s])), (6, I k), (7, .pi f.enc), (8, I x.2), (9, I x.1)]) (fun _ => []) (fun _ => []) (fun x => f.parts.length - x.1) (0, if e0 = 0 then (if 5 < f.parts.length then 3 else 0) else e0) ⟨by omega, ?_, ?_⟩
            (Ent.el ⟨rfl, rfl, rfl, rfl, rfl, rfl, trivial⟩) ?_
          · simp only
            by_cases g : e0 = 0
            · by_cases g3 : 5 < f.parts.length
              · simp [g, g3]
              · intro _; omega
            · simp [g]
          · show formE s.forms k = if (if e0 = 0 then (if 5 < f.parts.length then 3 else 0) else e0) = 0 then (failF (partsE f.parts) (f.parts.length - 0) 0).2 else (if e0 = 0 then (if 5 < f.parts.length then 3 else 0) else e0)
            rw [hfe]
            by_cases g : e0 = 0
            · by_cases g3 : 5 < f.parts.length
              · simp [g, g3]
              · simp [g, g3]
            · simp [g]
          rintro ⟨j, e⟩ ⟨hj, hf5, hji⟩
          simp only at hj hf5 hji
          by_cases hlt : j < f.parts.length
          · have g1 : decide ((j : Int) < ((f.parts.map Part.enc).length : Int)) = true := decide_eq_true (by rw [hpl]; omega)
            refine LWp.seq (LWp.seq ?_)
            refine LWp.x (gs := [(52, true)]) (hs := []) rfl (by (repeat' (with_reducible apply And.intro)); (all_goals try first | (with_reducible exact trivial) | (with_reducible rfl) | (with_reducible assumption) | ((with_reducible apply isB); first | exact rfl | exact beq_self_eq_true _))) ?_
            refine LWp.ite rfl (fun hz => ?_) (fun hz => ?_)
            · have hz : e = 0 := by simpa using hz
              subst hz
              rw [if_pos rfl] at hji
              have hf5 := hf5 rfl
              obtain ⟨p, hp⟩ := ex_get hlt
              have hpe : partsE f.parts j = partE p := by simp only [partsE, hp]
              have hpe2 := rpart_ev p (hfw.parts p (List.mem_of_getElem? hp))
              rw [failF_step hlt, hpe] at hji
              generalize partE p = e at hji hpe2
              refine LWp.skip (LWp.seq (LWp.block ?_))
              refine LWp.x (gs := []) (hs := [.cells p.enc, .ret (I e)]) rfl ⟨⟨by omega, by simp [hp]⟩, hpe2, trivial⟩ ?_
              refine LWp.x (gs := []) (hs := []) rfl ⟨by omega, trivial⟩ ?_
              refine ⟨(j + 1, e), ⟨by simp only; omega, fun _ => hf5, ?_⟩, by simp only; omega, Ent.el ⟨rfl, rfl, rfl, rfl, rfl, rfl, trivial⟩⟩
              simp only
              rw [hji]
              by_cases g : e = 0
              · rw [if_pos g, if_pos g]
              · rw [if_neg g, if_neg g]
            · have hz : ¬ e = 0 := by simpa using hz
              rw [if_neg hz] at hji
              exact LWp.exit ⟨(), trivial, Ent.el ⟨rfl, rfl, rfl, rfl, by rw [hji]; rfl, trivial⟩⟩
          · have g1 : decide ((j : Int) < ((f.parts.map Part.enc).length : Int)) = false := decide_eq_false (by rw [hpl]; omega)
            refine LWp.seq (LWp.seq ?_)
            refine LWp.x (gs := [(52, false)]) (hs := []) rfl (by (repeat' (with_reducible apply And.intro)); (all_goals try first | (with_reducible exact trivial) | (with_reducible rfl) | (with_reducible assumption) | ((with_reducible apply isB); first | exact rfl | exact beq_self_eq_true _))) ?_
            refine LWp.ite (b := false) rfl (fun h => by cases h) (fun _ => ?_)
            refine LWp.exit ⟨(), trivial, Ent.el ⟨rfl, rfl, rfl, rfl, ?_, trivial⟩⟩
            rw [hji]
            by_cases g : e = 0
            · rw [if_pos g, show f.parts.length - j = 0 by omega, g]; rfl
            · rw [if_neg g]; rfl
        intro _ _
        generalize formE s.forms k = e at hi
        refine LWp.seq ?_
        refine LWp.x (gs := []) (hs := []) rfl trivial ?_
        refine LWp.ite rfl (fun h4 => ?_) (fun h4 => ?_)
        · have h4 : e ≠ 0 := by simpa using h4
          rw [if_neg h4] at hi
          refine LWp.sx (gs := []) (hs := []) rfl trivial ?_
          exact LWp.ret (res (p := 2) (q := (k : Int)) (r := e) (by rw [hck, hi, if_neg h4]) rfl rfl rfl)
        · have h4 : e = 0 := by simpa using h4
          exact LWp.skip ⟨(), h4, Ent.el ⟨rfl, rfl, rfl, trivial⟩⟩
      · intro _ hz
        rw [if_pos hz] at hi
        refine LWp.x (gs := []) (hs := []) rfl ⟨by omega, trivial⟩ ?_
        exact ⟨k + 1, ⟨he, hi⟩, by omega, Ent.el ⟨rfl, rfl, rfl, trivial⟩⟩
    · simp only [List.length_map, decide_eq_false_iff_not, Int.ofNat_lt] at he
      refine LWp.exit ⟨(), ?_, Ent.el trivial⟩
      rw [hi, show s.forms.length - k = 0 by omega]; rfl
  · intro _ h0
    refine LWp.sx (gs := []) (hs := []) rfl trivial ?_
    exact LWp.ret (res (p := 0) (q := 0) (r := 0) (by rw [hck, if_pos h0]) rfl rfl rfl)
end Go.Px

namespace Go.Px
open Go.Proofs
theorem rrooms_ev (f : Form) (hp : f.parts.length ≤ 1000) : Ev Try.prog 68 [.agg f.enc] (roomsV (roomsL f.parts)) := by
  have hpl : (f.parts.map Part.enc).length = f.parts.length := List.length_map _
  refine Ev.intro fn68 ?_
  refine LWp.sx (gs := []) (hs := [.ice]) rfl ⟨⟨rfl, rfl⟩, trivial⟩ ?_
  refine LWp.sx (gs := []) (hs := []) rfl trivial ?_
  refine LWp.seq (LWp.seq ?_)
  refine LWp.x (gs := []) (hs := []) rfl trivial ?_
  refine LWp.blockT (fun _ : Unit => True) (fun _ => el [(3, .lin 82 2 ((roomsL f.parts).map fun r => [I r.1, I r.2]))]) (fun _ => []) (fun _ => []) ?_ ?_
  · refine LWp.loopN (fun k : Nat => k ≤ f.parts.length) (fun k => el [(1, .pi f.enc), (3, .lin 82 2 ((roomsL (f.parts.take k)).map fun r => [I r.1, I r.2])), (4, I k)]) (fun _ => []) (fun _ => []) (fun k => f.parts.length - k) 0 (by omega)
      (Ent.trans (Ent.nilLin (t := 3) 82 2 rfl) (Ent.el ⟨rfl, rfl, rfl, trivial⟩)) ?_
    intro k hk
    refine LWp.seq (LWp.seq ?_)
    refine LWp.x (gs := []) (hs := []) rfl trivial ?_
    refine LWp.ite rfl (fun he => ?_) (fun he => ?_)
    · simp only [List.length_map, decide_eq_true_eq, Int.ofNat_lt] at he
      obtain ⟨p, hx⟩ := ex_get he
      have hl := roomsL_len (f.parts.take k)
      simp only [List.length_take] at hl
      have htk : roomsL (f.parts.take (k + 1)) = if p.roomy = true then roomsL (f.parts.take k) ++ [(p.lo, p.hi)] else roomsL (f.parts.take k) := by
        rw [List.take_add_one, hx]; exact roomsL_snoc _ _
      refine LWp.skip ?_
      refine LWp.blockX (fun _ : Unit => True) (fun _ => el [(1, .pi f.enc), (3, .lin 82 2 ((roomsL (f.parts.take (k + 1))).map fun r => [I r.1, I r.2])), (4, I k)]) (fun _ => []) (fun _ => []) ?_ ?_
      · rw [htk]
        refine LWp.sx (gs := []) (hs := [.cells p.enc, .ret (B p.roomy)]) rfl ⟨⟨by omega, by simp [hx]⟩, roomy_ev p, trivial⟩ ?_
        refine LWp.ite rfl (fun hr => ?_) (fun hr => ?_)
        · rw [if_pos hr]
          refine LWp.x (gs := []) (hs := [.cells p.enc, .ice]) rfl ⟨⟨by omega, by simp [hx]⟩, rfl, ⟨by simp [chunk]; omega, by simp [chunk]; omega⟩, trivial⟩ ?_
          exact ⟨(), trivial, Ent.el ⟨rfl, by show AV.lin _ _ _ = _; rw [List.map_append]; rfl, rfl, trivial⟩⟩
        · rw [if_neg (by simp [hr])]
          exact LWp.skip ⟨(), trivial, Ent.el ⟨rfl, rfl, rfl, trivial⟩⟩
      intro _ _
      refine LWp.x (gs := []) (hs := []) rfl ⟨by omega, trivial⟩ ?_
      exact ⟨k + 1, by omega, by omega, Ent.el ⟨rfl, rfl, rfl, trivial⟩⟩
    · simp only [List.length_map, decide_eq_false_iff_not, Int.ofNat_lt] at he
      refine LWp.exit ⟨(), trivial, ?_⟩
      rw [List.take_of_length_le (by omega)]
      exact Ent.el ⟨rfl, trivial⟩
  intro _ _
  refine LWp.ent (Ent.freezeLin (t := 3) rfl) ?_
  refine LWp.sx (gs := []) (hs := []) rfl trivial ?_
  refine LWp.ret (retT (.inr rfl) (.one (.tmp ?_ rfl)))
  rfl
end Go.Px

namespace Go.Px
open Go.Proofs
abbrev bytes (x : List UInt8) : AV := .sl 1 (x.map fun c => [U c.toNat])
theorem valid_ev (s : Shelf) (hw : s.wf) : Ev Try.prog 43 [.agg s.enc] (B ((checkS s).2.2 == 0)) := by
  have e := rcheck_ev s hw
  generalize (checkS s).1 = p at e
  generalize (checkS s).2.1 = q at e
  generalize (checkS s).2.2 = r at e
  refine Ev.intro fn43 ?_
  refine LWp.sx (gs := []) (hs := [.ice]) rfl ⟨⟨rfl, rfl⟩, trivial⟩ ?_
  refine LWp.sx (gs := []) (hs := [.ret (.tup [I p, I q, I r])]) rfl ⟨e, trivial⟩ ?_
  refine LWp.sx (gs := []) (hs := []) rfl trivial ?_
  refine LWp.ret (retT (.inr rfl) (.one (.tmp ?_ rfl)))
  rfl
theorem turn_ev (x : List UInt8) (n : Nat) : Ev Try.prog 93 [bytes x, I n] (I (turnF x n)) := by
  refine Ev.intro fn93 ?_
  refine LWp.sx (gs := []) (hs := []) rfl trivial ?_
  refine LWp.seq (LWp.seq ?_)
  refine LWp.x (gs := []) (hs := []) rfl trivial ?_
  refine LWp.ite rfl (fun h => ?_) (fun h => LWp.skip ?_)
  · simp only [beq_iff_eq, List.length_map] at h
    have e : x = [] := List.length_eq_zero_iff.1 (by omega)
    subst e
    refine LWp.sx (gs := []) (hs := []) rfl trivial ?_
    refine LWp.ret (retT (.inr rfl) (.one (.tmp ?_ rfl)))
    rfl
  · simp only [beq_eq_false_iff_ne, ne_eq, List.length_map] at h
    have hl : 0 < x.length := by omega
    obtain ⟨c, hc⟩ := ex_get (Nat.mod_lt n hl)
    have em : ((n : Int) % ((x.map fun c => [U c.toNat]).length : Int)).toNat = n % x.length := by simp; omega
    have e0 : (0 : Int) ≤ (n : Int) % ((x.map fun c => [U c.toNat]).length : Int) := Int.emod_nonneg _ (by rw [List.length_map]; omega)
    have hcl := c.toNat_lt
    refine LWp.sx (gs := []) (hs := [.cells [U c.toNat]]) rfl ⟨⟨by omega, by simp; omega⟩, ⟨e0, by rw [em]; simp [hc]⟩, i64_wrap (by omega) (by omega), trivial⟩ ?_
    refine LWp.ret (retT (.inr rfl) (.one (.tmp ?_ rfl)))
    show I _ = I _
    unfold turnF
    rw [hc]
def whichN (s : Shelf) (w : Int) : Nat := w.toNat % s.forms.length
theorem which_ev (s : Shelf) (w : Int) (h0 : 0 ≤ w) (h1 : w ≤ 255) (hne : s.forms ≠ []) (h4 : s.forms.length ≤ 4) : Ev Try.prog 44 [.agg s.enc, U w] (I (whichN s w : Nat)) := by
  have hfl : (s.forms.map Form.enc).length = s.forms.length := List.length_map _
  have hpos := List.length_pos_iff.2 hne
  refine Ev.intro fn44 ?_
  refine LWp.sx (gs := []) (hs := [.ice]) rfl ⟨⟨rfl, rfl⟩, trivial⟩ ?_
  refine LWp.sx (gs := []) (hs := []) rfl (by exact ⟨i64_wrap (by omega) (by omega), ⟨by omega, by rw [hfl]; omega⟩, trivial⟩) ?_
  refine LWp.ret (retT (.inr rfl) (.one (.tmp ?_ rfl)))
  show I (w % ((s.forms.map Form.enc).length : Int)) = I ((w.toNat % s.forms.length : Nat) : Int)
  rw [hfl, Int.natCast_emod, Int.toNat_of_nonneg h0]
theorem said_ev : Ev Try.prog 94 [] (strs saidL) := by
  refine Ev.intro fn94 ?_
  refine LWp.sx (gs := []) (hs := []) rfl trivial ?_
  refine LWp.sx (gs := []) (hs := [.ice]) rfl ⟨rfl, trivial⟩ ?_
  refine LWp.ret (retT (.inr rfl) (.one (.tmp ?_ rfl)))
  rfl
end Go.Px

namespace Go.Px
open Go.Proofs
section
variable {s : Shelf} {l : List Wd}
theorem ofR_good (h : (checkS s).2.2 = 0) (hl : letterE l = 0) : ofR s l = (ofL s.forms l, 0) := by
  unfold ofR thenE
  rw [if_pos h, if_pos hl]
end
end Go.Px

namespace Go.Px
open Go.Proofs
theorem anyRoom_snoc (x : List UInt8) (a k : Nat) : anyRoom x a (k + 1) = anyRoom x a k ++ [saidW (turnF x (a + k))] := by
  unfold anyRoom
  rw [List.range_succ, List.map_append]; rfl
theorem any_ev (f : Form) (hv : FormV f) (x : List UInt8) : Ev Try.prog 45 [.agg f.enc, bytes x] (fillsV (anyF x (roomsL f.parts) 0)) := by
  have hp5 := hv.p5
  have hro := rooms_ok hv.parts
  have hrl := roomsL_len f.parts
  have hrm := rrooms_ev f (by omega)
  refine Ev.intro fn45 ?_
  refine LWp.sx (gs := []) (hs := [.ice]) rfl ⟨⟨rfl, rfl⟩, trivial⟩ ?_
  generalize roomsL f.parts = rs at hro hrl hrm
  have hrll : (rs.map fun r => [I r.1, I r.2]).length = rs.length := List.length_map _
  refine LWp.sx (gs := []) (hs := [.ret (roomsV rs)]) rfl ⟨hrm, trivial⟩ ?_
  refine LWp.sx (gs := []) (hs := []) rfl trivial ?_
  refine LWp.ent (Ent.nilSl (t := 6) 1 rfl) ?_
  refine LWp.sx (gs := []) (hs := []) rfl trivial ?_
  refine LWp.seq (LWp.seq ?_)
  refine LWp.x (gs := []) (hs := []) rfl trivial ?_
  generalize hF : anyF x rs 0 = F
  refine LWp.blockT (fun _ : Unit => True) (fun _ => el [(6, fillsV F)]) (fun _ => []) (fun _ => []) ?_ ?_
  · refine LWp.loopN (X := Nat × Nat × List (List Wd)) (fun y => y.1 ≤ rs.length ∧ y.2.1 ≤ 4 * y.1 ∧ y.2.2.length ≤ y.1 ∧ F = y.2.2 ++ anyF x (rs.drop y.1) y.2.1) (fun y => el [(1, bytes x), (5, roomsV rs), (6, fillsV y.2.2), (7, I y.2.1), (8, I y.1)]) (fun _ => []) (fun _ => []) (fun y => rs.length - y.1) (0, 0, []) ⟨Nat.zero_le _, by simp, by simp, by rw [← hF]; rfl⟩
      (Ent.el ⟨rfl, rfl, rfl, rfl, rfl, trivial⟩) ?_
    rintro ⟨i, a, dn⟩ ⟨hi, ha, hd, hFe⟩
    simp only at hi ha hd hFe
    have hdl : (dn.map fun f => [strs f]).length = dn.length := List.length_map _
    refine LWp.ent (Ent.el (l := [(1, bytes x), (5, roomsV rs), (6, fillsV dn), (7, I a), (8, I i)]) ⟨rfl, rfl, rfl, rfl, rfl, trivial⟩) ?_
    refine LWp.seq (LWp.seq ?_)
    refine LWp.x (gs := []) (hs := []) rfl trivial ?_
    refine LWp.ite rfl (fun he => ?_) (fun he => ?_)
    · simp only [List.length_map, decide_eq_true_eq, Int.ofNat_lt] at he
      obtain ⟨r, hr⟩ := ex_get he
      obtain ⟨r0, r1, r2, r3⟩ := hro r (List.mem_of_getElem? hr)
      rw [drop_cons hr, anyF] at hFe
      obtain ⟨n1, n2⟩ := anyMany_in x a r0 r1
      have hMd : (anyMany x r a : Int) = r.1 + turnF x a % (r.2 - r.1 + 1) := by
        unfold anyMany
        have := Int.emod_nonneg (turnF x a) (b := r.2 - r.1 + 1) (by omega)
        omega
      have t1 := turn_ev x a
      have u0 := turnF_nn x a
      have u1 := turnF_le x a
      generalize anyMany x r a = M at hFe n1 n2 hMd
      generalize turnF x a = v at t1 u0 u1 hMd
      have e1 : v % (r.2 - r.1 + 1) < r.2 - r.1 + 1 := Int.emod_lt_of_pos _ (by omega)
      have e2 : 0 ≤ v % (r.2 - r.1 + 1) := Int.emod_nonneg _ (by omega)
      refine LWp.skip ?_
      refine LWp.blockX (fun _ : Unit => True) (fun _ => el [(1, bytes x), (5, roomsV rs), (6, fillsV (dn ++ [anyRoom x (a + 1) M])), (7, I (a + 1 + M : Nat)), (8, I i)]) (fun _ => []) (fun _ => []) ?_ ?_
      · refine LWp.sd (gs := []) (hs := [.cells [I r.1, I r.2], .ret (I v), .cells [I r.1, I r.2], .cells [I r.1, I r.2]]) hmix rfl (by kernel_rfl) (by (repeat' (with_reducible apply And.intro)); (all_goals first | (with_reducible exact trivial) | (with_reducible rfl) | (with_reducible assumption) | ((with_reducible apply isB); first | exact rfl | exact beq_self_eq_true _) | omega | ((first | exact t1 | (simp [hr]; done))))) ?_
        refine LWp.ent (Ent.el (l := [(1, bytes x), (5, roomsV rs), (6, fillsV dn), (7, I a), (8, I i), (9, I M)]) ⟨rfl, rfl, rfl, rfl, rfl, by show I _ = I _; rw [hMd], trivial⟩) ?_
        refine LWp.sx (gs := []) (hs := []) rfl ⟨by omega, trivial⟩ ?_
        refine LWp.sx (gs := []) (hs := []) rfl trivial ?_
        refine LWp.ent (Ent.nilLin (t := 10) 9 1 rfl) ?_
        refine LWp.seq (LWp.seq ?_)
        refine LWp.x (gs := []) (hs := []) rfl trivial ?_
        refine LWp.blockT (fun _ : Unit => True) (fun _ => el [(1, bytes x), (5, roomsV rs), (6, fillsV dn), (7, I (a + 1 + M : Nat)), (8, I i), (10, strs (anyRoom x (a + 1) M))]) (fun _ => []) (fun _ => []) ?_ ?_
        · refine LWp.loopN (fun k : Nat => k ≤ M) (fun k => el [(1, bytes x), (5, roomsV rs), (6, fillsV dn), (7, I (a + 1 + k : Nat)), (8, I i), (9, I M), (10, .lin 9 1 ((anyRoom x (a + 1) k).map fun s => [Str s])), (11, I k)]) (fun _ => []) (fun _ => []) (fun k => M - k) 0 (Nat.zero_le _)
            (Ent.el ⟨rfl, rfl, rfl, rfl, rfl, rfl, rfl, rfl, trivial⟩) ?_
          intro k hk
          refine LWp.seq (LWp.seq ?_)
          refine LWp.x (gs := []) (hs := []) rfl trivial ?_
          refine LWp.ite rfl (fun hc => ?_) (fun hc => ?_)
          · simp only [decide_eq_true_eq, Int.ofNat_lt] at hc
            have t2 := turn_ev x (a + 1 + k)
            have hsg := saidW_get (turnF x (a + 1 + k))
            have w0 := turnF_nn x (a + 1 + k)
            have hsn := anyRoom_snoc x (a + 1) k
            have hal : ((anyRoom x (a + 1) k).map fun s => [Str s]).length = k := by simp [anyRoom]
            generalize hsw : saidW (turnF x (a + 1 + k)) = sw at *
            generalize turnF x (a + 1 + k) = v2 at *
            have hL8 : ((saidL.map fun s => [Str s]).length : Int) = 8 := rfl
            have hsd := said_ev
            refine LWp.skip ?_
            refine LWp.blockX (fun _ : Unit => True) (fun _ => el [(1, bytes x), (5, roomsV rs), (6, fillsV dn), (7, I (a + 1 + (k + 1) : Nat)), (8, I i), (9, I M), (10, .lin 9 1 ((anyRoom x (a + 1) (k + 1)).map fun s => [Str s])), (11, I k)]) (fun _ => []) (fun _ => []) ?_ ?_
            · rw [hsn]
              generalize saidL = sl at hsg hL8 hsd
              generalize anyRoom x (a + 1) k = R at hal
              refine LWp.sx (gs := []) (hs := [.ret (strs sl), .ret (I v2), .ret (strs sl), .cells [Str sw], .ice]) rfl (by exact ⟨hsd, t2, hsd, ⟨w0, by rw [hL8]; omega⟩, ⟨by rw [hL8]; omega, by rw [hL8]; simp [hsg]⟩, rfl, ⟨by rw [hal]; show (k + 1) * 16 ≤ _; omega, by rw [hal]; show k + 1 ≤ _; omega⟩, trivial⟩) ?_
              refine LWp.x (gs := []) (hs := []) rfl ⟨by omega, trivial⟩ ?_
              exact ⟨(), trivial, Ent.el ⟨rfl, rfl, rfl, rfl, rfl, rfl, by rw [List.map_append]; rfl, rfl, trivial⟩⟩
            intro _ _
            refine LWp.x (gs := []) (hs := []) rfl ⟨by omega, trivial⟩ ?_
            exact ⟨k + 1, by omega, by omega, Ent.el ⟨rfl, rfl, rfl, rfl, rfl, rfl, rfl, rfl, trivial⟩⟩
          · simp only [decide_eq_false_iff_not, Int.ofNat_lt] at hc
            have : k = M := by omega
            subst this
            exact LWp.exit ⟨(), trivial, Ent.trans (Ent.freezeLin (t := 10) rfl) (Ent.el ⟨rfl, rfl, rfl, rfl, rfl, rfl, trivial⟩)⟩
        intro _ _
        generalize anyRoom x (a + 1) M = R
        refine LWp.x (gs := []) (hs := [.lin, .ice]) rfl (by exact ⟨rfl, ⟨by show (0 + (dn.map fun f => [strs f]).length) * 24 ≤ _; rw [hdl]; omega, by show 0 + (dn.map fun f => [strs f]).length ≤ _; rw [hdl]; omega⟩, rfl, ⟨by show ((([] : List (List AV)) ++ dn.map fun f => [strs f]).length + 1) * 24 ≤ _; rw [List.nil_append, hdl]; omega, by show (([] : List (List AV)) ++ dn.map fun f => [strs f]).length + 1 ≤ _; rw [List.nil_append, hdl]; omega⟩, trivial⟩) ?_
        refine ⟨(), trivial, Ent.trans (Ent.freezeLin (t := 6) rfl) (Ent.el ⟨rfl, rfl, by show _ = AV.sl 1 ((dn ++ [_]).map fun f => [strs f]); rw [List.map_append]; rfl, rfl, rfl, trivial⟩)⟩
      intro _ _
      refine LWp.x (gs := []) (hs := []) rfl ⟨by omega, trivial⟩ ?_
      refine ⟨(i + 1, a + 1 + M, dn ++ [anyRoom x (a + 1) M]), ⟨by simp only; omega, by simp only; omega, by simp; omega, ?_⟩, by simp only; omega, Ent.el ⟨rfl, rfl, rfl, rfl, rfl, trivial⟩⟩
      simp only
      rw [hFe]; simp
    · simp only [List.length_map, decide_eq_false_iff_not, Int.ofNat_lt] at he
      refine LWp.exit ⟨(), trivial, Ent.el ⟨?_, trivial⟩⟩
      rw [hFe, List.drop_eq_nil_of_le (by omega)]
      show _ = fillsV (dn ++ [])
      rw [List.append_nil]; rfl
  intro _ _
  refine LWp.sx (gs := []) (hs := []) rfl trivial ?_
  refine LWp.ret (retT (.inr rfl) (.one (.tmp ?_ rfl)))
  rfl
end Go.Px

namespace Go.Px
open Go.Proofs
theorem lessM_L : ∀ (a b : List Nat), lessL (a.map fun (m : Nat) => (m : Int)) (b.map fun (m : Nat) => (m : Int)) = lessM a b
  | a, [] => by cases a <;> rfl
  | [], b :: y => by simp [lessL, lessM]
  | a :: x, b :: y => by
    have ih := lessM_L x y
    simp only [List.map_cons, lessL, lessM]
    by_cases h : a = b
    · rw [if_pos h, if_pos (by omega)]; exact ih
    · rw [if_neg h, if_neg (by omega), Bool.eq_iff_iff, decide_eq_true_eq, decide_eq_true_eq]; omega
theorem lessM_asymm : ∀ {a b : List Nat}, lessM a b = true → lessM b a = false
  | a, [], h => by cases a <;> simp [lessM] at h
  | [], b :: y, _ => by simp [lessM]
  | a :: x, b :: y, h => by
    simp only [lessM] at h ⊢
    by_cases e : a = b
    · rw [if_pos e] at h
      rw [if_pos e.symm]; exact lessM_asymm h
    · rw [if_neg e] at h
      rw [if_neg (fun g => e g.symm)]
      simp only [decide_eq_true_eq] at h
      exact decide_eq_false (by omega)
theorem Ev.args {P : Program} {f : FuncId} {ps qs : List AV} {res : AV} (h : Ev P f qs res) (hs : SubL ps qs) : Ev P f ps res :=
  ⟨h.1, fun S w vs hin hargs => h.2 S w vs hin (hs S vs hargs)⟩
theorem whichN_get {s : Shelf} (hne : s.forms ≠ []) (w : Int) : ∃ f, s.forms[whichN s w]? = some f := by
  have := List.length_pos_iff.2 hne
  exact ex_get (Nat.mod_lt _ this)
theorem fillsR_bad {s : Shelf} (h : ¬ ((checkS s).2.2 = 0 ∧ s.forms ≠ [])) : ∃ X q r, r ≠ 0 ∧ fillsR s 0 [] = (X, q, r) := by
  have hf : formI s 0 ≠ 0 := by
    unfold formI
    by_cases h0 : (checkS s).2.2 = 0
    · rw [if_pos h0]
      have : s.forms = [] := Classical.byContradiction fun g => h ⟨h0, g⟩
      rw [this, if_pos (by simp [beyondB])]
      decide
    · rw [if_neg h0]; exact h0
  refine ⟨[], 0, thenE (formI s 0) [], ?_, ?_⟩
  · unfold thenE; rw [if_neg hf]; exact hf
  · unfold fillsR
    rw [if_neg]
    unfold thenE; rw [if_neg hf]; exact hf
set_option maxRecDepth 20000 in
set_option maxHeartbeats 2000000 in
theorem letterMade_ev (s : Shelf) (hw : s.wf) (w : Int) (w0 : 0 ≤ w) (w1 : w ≤ 255) (x : List UInt8) : Ev Try.prog 9 [.agg s.enc, U w, bytes x] (B true) := by
  have hfl : (s.forms.map Form.enc).length = s.forms.length := List.length_map _
  have ev := valid_ev s hw
  refine Ev.intro fn9 ?_
  by_cases h : (checkS s).2.2 = 0 ∧ s.forms ≠ []
  case neg =>
    obtain ⟨X, q, r, hr, e⟩ := fillsR_bad h
    have e1 := fills_ev s hw 0 []
    rw [e] at e1
    have e1' : Ev Try.prog 25 [.agg s.enc, I 0, .v (.slice none 0 0)] (.tup [fillsV X, I q, I r]) := e1.args (SubL.cons (SubL.cons (SubL.nilSl (SubL.refl _))))
    have g1 : (r != 0) = true := by rw [bne_iff_ne]; exact hr
    generalize (checkS s).2.2 = c at ev h
    refine LWp.sx (gs := []) (hs := [.ice]) rfl ⟨⟨rfl, rfl⟩, trivial⟩ ?_
    refine LWp.seq (LWp.cutX (fun _ : Unit => True) (fun _ => el [(3, .pi s.enc), (32, B true)]) (fun _ => []) (fun _ => []) ?_ ?_)
    · by_cases hx1 : c = 0
      · have k0 : (c == 0) = true := by rw [hx1]; rfl
        have hx2 : s.forms = [] := Classical.byContradiction fun g => h ⟨hx1, g⟩
        have k3 : (((s.forms.map Form.enc).length : Int) == 0) = true := by rw [hfl, hx2]; rfl
        rw [k0] at ev
        refine LWp.x (gs := [(27, false)]) (hs := [.ret (B true)]) rfl (by (repeat' (with_reducible apply And.intro)); (all_goals first | (with_reducible exact trivial) | (with_reducible rfl) | (with_reducible assumption) | ((with_reducible apply isB); first | exact rfl | exact beq_self_eq_true _) | omega | ((first | exact ev)))) ?_
        exact ⟨(), trivial, Ent.el ⟨rfl, by show B _ = B _; exact congrArg B k3, trivial⟩⟩
      · have k0 : (c == 0) = false := by rw [beq_eq_false_iff_ne]; exact hx1
        rw [k0] at ev
        refine LWp.x (gs := [(27, true)]) (hs := [.ret (B false)]) rfl (by (repeat' (with_reducible apply And.intro)); (all_goals first | (with_reducible exact trivial) | (with_reducible rfl) | (with_reducible assumption) | ((with_reducible apply isB); first | exact rfl | exact beq_self_eq_true _) | omega | ((first | exact ev)))) ?_
        exact ⟨(), trivial, Ent.el ⟨rfl, rfl, trivial⟩⟩
    intro _ _
    refine LWp.ite (b := true) rfl (fun _ => ?_) (fun h => by cases h)
    refine LWp.sx (gs := []) (hs := [.ret (.tup [fillsV X, I q, I r])]) rfl ⟨e1', trivial⟩ ?_
    refine LWp.sx (gs := [(41, true)]) (hs := [.ret (B true)]) rfl (by (repeat' (with_reducible apply And.intro)); (all_goals first | (with_reducible exact trivial) | (with_reducible rfl) | (with_reducible assumption) | ((with_reducible apply isB); first | exact rfl | exact beq_self_eq_true _) | omega | ((first | exact awake_ev)))) ?_
    refine LWp.ret (retT (.inr rfl) (.one (.tmp ?_ rfl)))
    rfl
  obtain ⟨h0, hne⟩ := h
  have V := shelf_iff.1 h0
  have hf4 := V.f4
  have hpos := List.length_pos_iff.2 hne
  have ewh := which_ev s w w0 w1 hne hf4
  obtain ⟨f, hf⟩ := whichN_get hne w
  generalize whichN s w = n at ewh hf
  have hnl := (List.getElem?_eq_some_iff.1 hf).1
  have hv := form_v V hf
  have hin := anyF_in x (roomsL f.parts) 0 (fun r hr => ⟨(rooms_ok hv.parts r hr).1, (rooms_ok hv.parts r hr).2.1⟩)
  have hws := anyF_words x (roomsL f.parts) 0
  have eany := any_ev f hv x
  have hrl : (anyF x (roomsL f.parts) 0).length ≤ 5 := by
    have h1 := inR_len hin
    have h2 := rooms_len f.parts
    have := hv.p5
    rw [List.length_map] at h1
    omega
  generalize anyF x (roomsL f.parts) 0 = fs at hin hws eany hrl
  obtain ⟨hmk, hlE⟩ := make_ok V hf hin hws
  obtain ⟨m, ms, hwy, hfi, hmk2, hlen, hfirst, hone⟩ := made_all V hf hin hws
  have e1 := make_ev s hw n fs
  rw [hmk] at e1
  have e2 := of_ev s hw (builtF f.parts fs)
  rw [ofR_good h0 hlE] at e2
  have e3 := fills_ev s hw n (builtF f.parts fs)
  rw [hfi] at e3
  have e4 := make_ev s hw n (filledF f.parts m (builtF f.parts fs))
  rw [hmk2] at e4
  have hhas := has_ev (ofL s.forms (builtF f.parts fs)) n
  rw [show (ofL s.forms (builtF f.parts fs)).any (· == (n : Int)) = true from List.any_eq_true.2 ⟨_, (ofL_has V hf _ n hf).2 (by rw [hwy]; simp), by simp⟩] at hhas
  have hsame := same_refl (builtF f.parts fs)
  have hln : (filledF f.parts m (builtF f.parts fs)).length = fs.length := by
    have h1 := congrArg List.length hlen
    have h2 := inR_len hin
    have h3 : m.length = (roomsL f.parts).length := cnts_len (List.mem_filter.1 (show m ∈ waysF f.parts (builtF f.parts fs) by rw [hwy]; simp)).1
    rw [List.length_map] at h1 h2
    omega
  have hcl := cnts_size (rs := roomsL f.parts) (fun r hr => ⟨(rooms_ok hv.parts r hr).1, (rooms_ok hv.parts r hr).2.2.2⟩)
  have hwl : (m :: ms).length ≤ 1024 := by
    rw [← hwy]
    have h1 : (waysF f.parts (builtF f.parts fs)).length ≤ (cnts (roomsL f.parts)).length := List.length_filter_le _ _
    have h2 : (roomsL f.parts).length ≤ 5 := Nat.le_trans (rooms_len _) hv.p5
    have h3 : 4 ^ (roomsL f.parts).length ≤ 4 ^ 5 := Nat.pow_le_pow_right (by omega) h2
    omega
  generalize ofL s.forms (builtF f.parts fs) = O at e2 hhas
  generalize filledF f.parts m (builtF f.parts fs) = X at e3 e4 hlen hln
  generalize builtF f.parts fs = l at e1 e2 e3 e4 hsame
  have hless := less_ev (fs.map fun y => (y.length : Int)) (X.map fun y => (y.length : Int))
  have hl1 : (X.map fun y => (y.length : Int)) = m.map fun (k : Nat) => (k : Int) := by rw [← hlen, List.map_map]; rfl
  have hl2 : (fs.map fun y => (y.length : Int)) = (fs.map List.length).map fun (k : Nat) => (k : Int) := by rw [List.map_map]; rfl
  have hlf : lessL (fs.map fun y => (y.length : Int)) (X.map fun y => (y.length : Int)) = false := by
    rw [hl1, hl2, lessM_L]
    rcases hfirst with e | e
    · rw [e]; exact lessM_irrefl m
    · exact lessM_asymm e
  rw [hlf] at hless
  have hXl : (X.map fun f => [strs f]).length = X.length := List.length_map _
  have hFl : (fs.map fun f => [strs f]).length = fs.length := List.length_map _
  rw [h0] at ev
  have hN1 : 1 ≤ (m :: ms).length := by simp
  have hNm : ¬ 1 < (m :: ms).length → fs.map List.length = m := fun g => hone (List.length_eq_zero_iff.1 (by simp at g; simpa using g))
  generalize (m :: ms).length = N at e3 hN1 hwl hNm
  refine LWp.sx (gs := []) (hs := [.ice]) rfl ⟨⟨rfl, rfl⟩, trivial⟩ ?_
  refine LWp.seq (LWp.seq ?_)
  have k3 : (((s.forms.map Form.enc).length : Int) == 0) = false := by rw [beq_eq_false_iff_ne]; omega
  refine LWp.x (gs := [(27, false)]) (hs := [.ret (B true)]) rfl (by (repeat' (with_reducible apply And.intro)); (all_goals first | (with_reducible exact trivial) | (with_reducible rfl) | (with_reducible assumption) | ((with_reducible apply isB); first | exact rfl | exact beq_self_eq_true _) | omega | ((first | exact ev)))) ?_
  refine LWp.ite (b := false) (by show B _ = B _; exact congrArg B k3) (fun h => by cases h) (fun _ => LWp.skip ?_)
  refine LWp.sx (gs := []) (hs := [.ret (I n)]) rfl ⟨ewh, trivial⟩ ?_
  refine LWp.sx (gs := []) (hs := [.cells f.enc, .ret (fillsV fs)]) rfl ⟨⟨by omega, by simp [hf]⟩, eany, trivial⟩ ?_
  refine LWp.sx (gs := []) (hs := [.ret (.tup [strs l, I 0])]) rfl ⟨e1, trivial⟩ ?_
  refine LWp.sx (gs := []) (hs := [.ret (.tup [ints O, I 0])]) rfl ⟨e2, trivial⟩ ?_
  refine LWp.sx (gs := []) (hs := [.ret (.tup [fillsV X, I N, I 0])]) rfl ⟨e3, trivial⟩ ?_
  refine LWp.sx (gs := []) (hs := [.ret (.tup [strs l, I 0])]) rfl ⟨e4, trivial⟩ ?_
  refine LWp.ent (Ent.el (l := [(10, I n), (11, fillsV fs), (12, strs l), (13, I 0), (14, ints O), (15, I 0), (16, fillsV X), (17, I N), (18, I 0), (19, strs l), (20, I 0)]) ⟨rfl, rfl, rfl, rfl, rfl, rfl, rfl, rfl, rfl, rfl, rfl, trivial⟩) ?_
  refine LWp.seq (LWp.cutX (fun _ : Unit => True) (fun _ => el [(11, fillsV fs), (16, fillsV X), (17, I N), (118, B false)]) (fun _ => []) (fun _ => []) ?_ ?_)
  · have c1 : decide ((N : Int) < 1) = false := decide_eq_false (by omega)
    refine LWp.x (gs := [(84, false), (88, false), (92, false), (96, false), (102, false), (106, false), (112, false)]) (hs := [.ret (B true), .ret (B true)]) rfl (by (repeat' (with_reducible apply And.intro)); (all_goals first | (with_reducible exact trivial) | (with_reducible rfl) | (with_reducible assumption) | ((with_reducible apply isB); first | exact rfl | exact beq_self_eq_true _) | omega | ((first | exact hhas | exact hsame)))) ?_
    refine ⟨(), trivial, Ent.el ⟨rfl, rfl, rfl, ?_, trivial⟩⟩
    show B _ = B _
    exact congrArg B (by rw [hXl, hFl, hln]; simp)
  intro _ _
  refine LWp.ite (b := false) rfl (fun h => by cases h) (fun _ => LWp.skip ?_)
  refine LWp.sx (gs := []) (hs := []) rfl trivial ?_
  refine LWp.ent (Ent.trans (Ent.nilLin (t := 21) 3 1 rfl) (Ent.nilLin (t := 22) 3 1 rfl)) ?_
  refine LWp.ent (Ent.el (l := [(11, fillsV fs), (16, fillsV X), (17, I N), (21, .lin 3 1 []), (22, .lin 3 1 [])]) ⟨rfl, rfl, rfl, rfl, rfl, trivial⟩) ?_
  refine LWp.seq (LWp.seq ?_)
  refine LWp.x (gs := []) (hs := []) rfl trivial ?_
  refine LWp.blockT (fun _ : Unit => True) (fun _ => el [(17, I N), (21, ints (X.map fun y => (y.length : Int))), (22, ints (fs.map fun y => (y.length : Int)))]) (fun _ => []) (fun _ => []) ?_ ?_
  · refine LWp.loopN (fun k : Nat => k ≤ fs.length) (fun k => el [(11, fillsV fs), (16, fillsV X), (17, I N), (21, .lin 3 1 (((X.take k).map fun y => (y.length : Int)).map fun z => [I z])), (22, .lin 3 1 (((fs.take k).map fun y => (y.length : Int)).map fun z => [I z])), (23, I k)]) (fun _ => []) (fun _ => []) (fun k => fs.length - k) 0 (Nat.zero_le _)
      (Ent.el ⟨rfl, rfl, rfl, rfl, rfl, rfl, trivial⟩) ?_
    intro k hk
    refine LWp.seq (LWp.seq ?_)
    refine LWp.x (gs := []) (hs := []) rfl trivial ?_
    refine LWp.ite rfl (fun he => ?_) (fun he => ?_)
    · simp only [List.length_map, decide_eq_true_eq, Int.ofNat_lt] at he
      obtain ⟨a, ha⟩ := ex_get (l := X) (k := k) (by omega)
      obtain ⟨b, hb⟩ := ex_get he
      have hka : ((a.map fun s => [Str s]).length : Int) = (a.length : Int) := by rw [List.length_map]
      have hkb : ((b.map fun s => [Str s]).length : Int) = (b.length : Int) := by rw [List.length_map]
      have hta : (X.take (k + 1)).map (fun y => (y.length : Int)) = (X.take k).map (fun y => (y.length : Int)) ++ [(a.length : Int)] := by rw [take_snoc ha, List.map_append]; rfl
      have htb : (fs.take (k + 1)).map (fun y => (y.length : Int)) = (fs.take k).map (fun y => (y.length : Int)) ++ [(b.length : Int)] := by rw [take_snoc hb, List.map_append]; rfl
      have hla : (((X.take k).map fun y => (y.length : Int)).map fun z => [I z]).length ≤ 5 := by simp; omega
      have hlb : (((fs.take k).map fun y => (y.length : Int)).map fun z => [I z]).length ≤ 5 := by simp; omega
      refine LWp.skip ?_
      refine LWp.blockX (fun _ : Unit => True) (fun _ => el [(11, fillsV fs), (16, fillsV X), (17, I N), (21, .lin 3 1 (((X.take (k + 1)).map fun y => (y.length : Int)).map fun z => [I z])), (22, .lin 3 1 (((fs.take (k + 1)).map fun y => (y.length : Int)).map fun z => [I z])), (23, I k)]) (fun _ => []) (fun _ => []) ?_ ?_
      · rw [hta, htb]
        generalize (X.take k).map (fun y => (y.length : Int)) = Y1 at hla
        generalize (fs.take k).map (fun y => (y.length : Int)) = Y2 at hlb
        refine LWp.sx (gs := []) (hs := [.cells [strs a], .ice]) rfl ⟨⟨by omega, by simp [ha]⟩, rfl, ⟨by show (_ + 1) * 8 ≤ _; omega, by show _ + 1 ≤ _; omega⟩, trivial⟩ ?_
        refine LWp.x (gs := []) (hs := [.cells [strs b], .ice]) rfl ⟨⟨by omega, by simp [hb]⟩, rfl, ⟨by show (_ + 1) * 8 ≤ _; omega, by show _ + 1 ≤ _; omega⟩, trivial⟩ ?_
        exact ⟨(), trivial, Ent.el ⟨rfl, rfl, rfl, by rw [List.map_append, ← hka]; rfl, by rw [List.map_append, ← hkb]; rfl, rfl, trivial⟩⟩
      intro _ _
      refine LWp.x (gs := []) (hs := []) rfl ⟨by omega, trivial⟩ ?_
      exact ⟨k + 1, by omega, by omega, Ent.el ⟨rfl, rfl, rfl, rfl, rfl, rfl, trivial⟩⟩
    · simp only [List.length_map, decide_eq_false_iff_not, Int.ofNat_lt] at he
      refine LWp.exit ⟨(), trivial, Ent.trans (Ent.trans (Ent.freezeLin (t := 21) rfl) (Ent.freezeLin (t := 22) rfl)) (Ent.el ⟨rfl, ?_, ?_, trivial⟩)⟩
      · rw [show X.take k = X from List.take_of_length_le (by omega)]; rfl
      · rw [show fs.take k = fs from List.take_of_length_le (by omega)]; rfl
  intro _ _
  by_cases hN2 : 1 < N
  · have c2 : decide ((N : Int) > 1) = true := decide_eq_true (by omega)
    refine LWp.sx (gs := [(145, true), (148, true), (154, true)]) (hs := [.ret (B false), .ret (B true)]) rfl (by (repeat' (with_reducible apply And.intro)); (all_goals first | (with_reducible exact trivial) | (with_reducible rfl) | (with_reducible assumption) | ((with_reducible apply isB); first | exact rfl | exact beq_self_eq_true _) | omega | ((first | exact hless | exact awake_ev)))) ?_
    refine LWp.ret (retT (.inr rfl) (.one (.tmp ?_ rfl)))
    rfl
  · have c2 : decide ((N : Int) > 1) = false := decide_eq_false (by omega)
    have hie := ints_refl (X.map fun y => (y.length : Int))
    have hee : (fs.map fun y => (y.length : Int)) = (X.map fun y => (y.length : Int)) := by rw [hl1, hl2, hNm hN2]
    rw [hee] at hless ⊢
    refine LWp.sx (gs := [(145, true), (148, false), (154, true)]) (hs := [.ret (B false), .ret (B true), .ret (B true)]) rfl (by (repeat' (with_reducible apply And.intro)); (all_goals first | (with_reducible exact trivial) | (with_reducible rfl) | (with_reducible assumption) | ((with_reducible apply isB); first | exact rfl | exact beq_self_eq_true _) | omega | ((first | exact hless | exact hie | exact awake_ev)))) ?_
    refine LWp.ret (retT (.inr rfl) (.one (.tmp ?_ rfl)))
    rfl
end Go.Px

namespace Go.Px
open Go.Proofs Go.Proofs.Ytbplgdbdpdhipaa
open Go.ChangeShapes Go.WideShapes Go.ChangeAt Go.RowKit
def bytesSh : Sh := .sl (.int .u8)
theorem fits_u8 (a : AV) (h : FitA (.int .u8) a) : ∃ i : Int, 0 ≤ i ∧ i ≤ 255 ∧ a = U i := by
  simp only [FitA, Fits] at h
  obtain ⟨n, h, hn⟩ := h
  simp only [List.cons.injEq, and_true] at h
  have := bounds_u8 hn
  exact ⟨n, by omega, by omega, h⟩
theorem fits_byte (l : List AV) (h : Fits (.int .u8) l) : ∃ a : UInt8, True ∧ l = [U a.toNat] := by
  simp only [Fits] at h
  obtain ⟨n, rfl, hn⟩ := h
  have := bounds_u8 hn
  refine ⟨n.toNat.toUInt8, trivial, ?_⟩
  have e : n.toNat.toUInt8.toNat = n.toNat % 256 := rfl
  rw [e, show ((n.toNat % 256 : Nat) : Int) = n by omega]
theorem fits_bytes1 (l : List AV) (h : Fits bytesSh l) : ∃ x : List UInt8, l = [bytes x] := by
  simp only [bytesSh, Fits.eq_4] at h
  obtain ⟨es, rfl, _, hes⟩ := h
  obtain ⟨x, _, rfl⟩ := fits_list fits_byte hes
  exact ⟨x, rfl⟩
theorem fits_bytes (a : AV) (h : FitA bytesSh a) : ∃ x : List UInt8, a = bytes x := by
  have h : Fits bytesSh [a] := h
  obtain ⟨x, e⟩ := fits_bytes1 _ h
  simp only [List.cons.injEq, and_true] at e
  exact ⟨x, e⟩
end Go.Px

