/- Part 1 of the proof of the statement LetterNearest (contracts of the functions that it alone wants). No conditions. -/
import Derived.Test.YtbplgdbdpdhipaaA7
import Derived.Test.YtbplgdbdpdhipaaChecked
import Derived.KernelRfl
namespace Go.Px
open Go.Proofs
set_option maxRecDepth 100000
def L14 : LCode :=
 (.seq
 (.ops [⟨(some 2), none, .box 24 (tm 0)⟩,
 ⟨(some 4), none, .mov (.const (.bool false))⟩])
 (.seq
 (.ops [⟨(some 14), none, .load 24 (tm 2) (some 2)⟩,
 ⟨(some 15), none, .mov (tm 1)⟩,
 ⟨(some 16), none, .call 39 [(tm 14), (tm 15)] 27⟩,
 ⟨(some 13), none, .mov (tm 16)⟩,
 ⟨(some 17), none, .extract (tm 13) 0⟩,
 ⟨(some 18), none, .extract (tm 13) 1⟩,
 ⟨(some 19), none, .extract (tm 13) 2⟩,
 ⟨(some 5), none, .mov (tm 17)⟩,
 ⟨(some 6), none, .mov (tm 18)⟩,
 ⟨(some 7), none, .mov (tm 19)⟩])
 (.seq
 (.seq
 (.ops [⟨(some 20), none, .load 24 (tm 2) (some 2)⟩,
 ⟨(some 21), none, .call 43 [(tm 20)] 4⟩,
 ⟨(some 22), none, .un .not (tm 21)⟩,
 ⟨(some 23), none, .mov (tm 22)⟩,
 ⟨(some 24), some (23, false), .faddr 24 (tm 2) 1 1⟩,
 ⟨(some 25), some (23, false), .load 22 (tm 24) none⟩,
 ⟨(some 26), some (23, false), .len false 22 3 (tm 25)⟩,
 ⟨(some 27), some (23, false), .bin .eql 3 (tm 26) (kc 0)⟩,
 ⟨(some 28), none, .pick (tm 23) (.const (.bool true)) (tm 27)⟩,
 ⟨(some 29), none, .mov (tm 28)⟩,
 ⟨(some 30), some (29, false), .mov (tm 1)⟩,
 ⟨(some 31), some (29, false), .call 48 [(tm 30)] 26⟩,
 ⟨(some 32), some (29, false), .bin .neq 26 (tm 31) (kc 0)⟩,
 ⟨(some 33), none, .pick (tm 29) (.const (.bool true)) (tm 32)⟩])
 (.ite (tm 33)
 (.seq
 (.ops [⟨(some 34), none, .mov (tm 7)⟩,
 ⟨(some 35), none, .bin .neq 26 (tm 34) (kc 0)⟩,
 ⟨(some 36), none, .mov (tm 35)⟩,
 ⟨(some 37), some (36, true), .mov (tm 5)⟩,
 ⟨(some 38), some (36, true), .bin .eql 3 (tm 37) (kc 0)⟩,
 ⟨(some 39), none, .pick (tm 36) (tm 38) (.const (.bool false))⟩,
 ⟨(some 40), none, .mov (tm 39)⟩,
 ⟨(some 41), some (40, true), .mov (tm 6)⟩,
 ⟨(some 42), some (40, true), .bin .eql 3 (tm 41) (kc 0)⟩,
 ⟨(some 43), none, .pick (tm 40) (tm 42) (.const (.bool false))⟩,
 ⟨(some 44), none, .mov (tm 43)⟩,
 ⟨(some 45), some (44, true), .call 21 [] 4⟩,
 ⟨(some 46), none, .pick (tm 44) (tm 45) (.const (.bool false))⟩,
 ⟨(some 4), none, .mov (tm 46)⟩])
 .ret)
 .skip))
 (.seq
 (.ops [⟨(some 48), none, .load 24 (tm 2) (some 2)⟩,
 ⟨(some 49), none, .mov (tm 1)⟩,
 ⟨(some 50), none, .call 22 [(tm 48), (tm 49)] 36⟩,
 ⟨(some 47), none, .mov (tm 50)⟩,
 ⟨(some 51), none, .extract (tm 47) 0⟩,
 ⟨(some 52), none, .extract (tm 47) 1⟩,
 ⟨(some 8), none, .mov (tm 51)⟩,
 ⟨(some 9), none, .mov (tm 52)⟩])
 (.seq
 (.seq
 (.ops [⟨(some 53), none, .mov (tm 7)⟩,
 ⟨(some 54), none, .bin .neq 26 (tm 53) (kc 0)⟩,
 ⟨(some 55), none, .mov (tm 54)⟩,
 ⟨(some 56), some (55, false), .mov (tm 9)⟩,
 ⟨(some 57), some (55, false), .bin .neq 26 (tm 56) (kc 0)⟩,
 ⟨(some 58), none, .pick (tm 55) (.const (.bool true)) (tm 57)⟩,
 ⟨(some 59), none, .mov (tm 58)⟩,
 ⟨(some 60), some (59, false), .mov (tm 5)⟩,
 ⟨(some 61), some (59, false), .faddr 24 (tm 2) 1 1⟩,
 ⟨(some 62), some (59, false), .load 22 (tm 61) none⟩,
 ⟨(some 63), some (59, false), .len false 22 3 (tm 62)⟩,
 ⟨(some 64), some (59, false), .bin .sub 3 (tm 63) (kc 1)⟩,
 ⟨(some 65), some (59, false), .call 53 [(tm 60), (kc 0), (tm 64)] 4⟩,
 ⟨(some 66), some (59, false), .un .not (tm 65)⟩,
 ⟨(some 67), none, .pick (tm 59) (.const (.bool true)) (tm 66)⟩,
 ⟨(some 68), none, .mov (tm 67)⟩,
 ⟨(some 69), some (68, false), .mov (tm 8)⟩,
 ⟨(some 70), some (68, false), .faddr 24 (tm 2) 1 1⟩,
 ⟨(some 71), some (68, false), .load 22 (tm 70) none⟩,
 ⟨(some 72), some (68, false), .len false 22 3 (tm 71)⟩,
 ⟨(some 73), some (68, false), .call 54 [(tm 69), (tm 72)] 4⟩,
 ⟨(some 74), some (68, false), .un .not (tm 73)⟩,
 ⟨(some 75), none, .pick (tm 68) (.const (.bool true)) (tm 74)⟩])
 (.ite (tm 75)
 (.seq
 (.ops [⟨(some 4), none, .mov (.const (.bool false))⟩])
 .ret)
 .skip))
 (.seq
 (.seq
 (.ops [⟨(some 10), none, .mov (kc 0)⟩])
 (.block 0
 (.loop
 (.seq
 (.seq
 (.ops [⟨(some 76), none, .mov (tm 10)⟩,
 ⟨(some 77), none, .faddr 24 (tm 2) 1 1⟩,
 ⟨(some 78), none, .load 22 (tm 77) none⟩,
 ⟨(some 79), none, .len false 22 3 (tm 78)⟩,
 ⟨(some 80), none, .bin .lss 3 (tm 76) (tm 79)⟩])
 (.ite (tm 80)
 .skip
 (.exit 0)))
 (.seq
 (.block 1
 (.seq
 (.ops [⟨(some 84), none, .load 24 (tm 2) (some 2)⟩,
 ⟨(some 85), none, .mov (tm 10)⟩,
 ⟨(some 86), none, .mov (tm 1)⟩,
 ⟨(some 87), none, .call 37 [(tm 84), (tm 85), (tm 86)] 53⟩,
 ⟨(some 83), none, .mov (tm 87)⟩,
 ⟨(some 88), none, .extract (tm 83) 0⟩,
 ⟨(some 89), none, .extract (tm 83) 1⟩,
 ⟨(some 11), none, .mov (tm 88)⟩,
 ⟨(some 12), none, .mov (tm 89)⟩])
 (.seq
 (.ops [⟨(some 90), none, .mov (tm 12)⟩,
 ⟨(some 91), none, .bin .neq 26 (tm 90) (kc 0)⟩,
 ⟨(some 92), none, .mov (tm 91)⟩,
 ⟨(some 93), some (92, false), .mov (tm 11)⟩,
 ⟨(some 94), some (92, false), .mov (tm 6)⟩,
 ⟨(some 95), some (92, false), .bin .lss 3 (tm 93) (tm 94)⟩,
 ⟨(some 96), none, .pick (tm 92) (.const (.bool true)) (tm 95)⟩,
 ⟨(some 97), none, .mov (tm 96)⟩,
 ⟨(some 98), some (97, false), .mov (tm 10)⟩,
 ⟨(some 99), some (97, false), .mov (tm 5)⟩,
 ⟨(some 100), some (97, false), .bin .lss 3 (tm 98) (tm 99)⟩,
 ⟨(some 101), some (97, false), .mov (tm 100)⟩,
 ⟨(some 102), some (101, true), .mov (tm 11)⟩,
 ⟨(some 103), some (101, true), .mov (tm 6)⟩,
 ⟨(some 104), some (101, true), .bin .eql 3 (tm 102) (tm 103)⟩,
 ⟨(some 105), some (97, false), .pick (tm 101) (tm 104) (.const (.bool false))⟩,
 ⟨(some 106), none, .pick (tm 97) (.const (.bool true)) (tm 105)⟩,
 ⟨(some 107), none, .mov (tm 106)⟩,
 ⟨(some 108), some (107, false), .mov (tm 10)⟩,
 ⟨(some 109), some (107, false), .mov (tm 5)⟩,
 ⟨(some 110), some (107, false), .bin .eql 3 (tm 108) (tm 109)⟩,
 ⟨(some 111), some (107, false), .mov (tm 110)⟩,
 ⟨(some 112), some (111, true), .mov (tm 11)⟩,
 ⟨(some 113), some (111, true), .mov (tm 6)⟩,
 ⟨(some 114), some (111, true), .bin .neq 3 (tm 112) (tm 113)⟩,
 ⟨(some 115), some (107, false), .pick (tm 111) (tm 114) (.const (.bool false))⟩,
 ⟨(some 116), none, .pick (tm 107) (.const (.bool true)) (tm 115)⟩,
 ⟨(some 117), none, .mov (tm 116)⟩,
 ⟨(some 118), some (117, false), .mov (tm 11)⟩,
 ⟨(some 119), some (117, false), .bin .eql 3 (tm 118) (kc 0)⟩,
 ⟨(some 120), some (117, false), .mov (tm 8)⟩,
 ⟨(some 121), some (117, false), .mov (tm 10)⟩,
 ⟨(some 122), some (117, false), .call 46 [(tm 120), (tm 121)] 4⟩,
 ⟨(some 123), some (117, false), .eqT true 4 (tm 119) (tm 122)⟩,
 ⟨(some 124), none, .pick (tm 117) (.const (.bool true)) (tm 123)⟩])
 (.ite (tm 124)
 (.seq
 (.ops [⟨(some 4), none, .mov (.const (.bool false))⟩])
 .ret)
 .skip))))
 (.ops [⟨(some 81), none, .mov (tm 10)⟩,
 ⟨(some 82), none, .bin .add 3 (tm 81) (kc 1)⟩,
 ⟨(some 10), none, .mov (tm 82)⟩]))))))
 (.seq
 (.ops [⟨(some 125), none, .call 21 [] 4⟩,
 ⟨(some 4), none, .mov (tm 125)⟩])
 .ret)))))))
theorem fn14 : FnOK Try.prog 14 126 [.tmp 4] L14 := ⟨Try.f14, Try.func14, by kernel_rfl, Try.ntmps14, by rw [Try.results14], by kernel_rfl⟩
def L17 : LCode :=
 (.seq
 (.ops [⟨(some 1), none, .box 24 (tm 0)⟩,
 ⟨(some 2), none, .mov (kc 0)⟩,
 ⟨(some 3), none, .mov (kc 0)⟩,
 ⟨(some 4), none, .mov (kc 0)⟩])
 (.seq
 (.seq
 (.ops [⟨(some 10), none, .faddr 24 (tm 1) 0 0⟩,
 ⟨(some 11), none, .load 3 (tm 10) none⟩,
 ⟨(some 12), none, .call 53 [(tm 11), (kc 8), (kc 30)] 4⟩,
 ⟨(some 13), none, .un .not (tm 12)⟩])
 (.ite (tm 13)
 (.seq
 (.ops [⟨(some 2), none, .mov (kc 1)⟩,
 ⟨(some 3), none, .mov (kc 0)⟩,
 ⟨(some 4), none, .mov (kc 7)⟩])
 .ret)
 .skip))
 (.seq
 (.seq
 (.ops [⟨(some 14), none, .faddr 24 (tm 1) 1 1⟩,
 ⟨(some 15), none, .load 22 (tm 14) none⟩,
 ⟨(some 16), none, .len false 22 3 (tm 15)⟩,
 ⟨(some 17), none, .bin .gtr 3 (tm 16) (kc 4)⟩])
 (.ite (tm 17)
 (.seq
 (.ops [⟨(some 2), none, .mov (kc 2)⟩,
 ⟨(some 3), none, .mov (kc 0)⟩,
 ⟨(some 4), none, .mov (kc 3)⟩])
 .ret)
 .skip))
 (.seq
 (.ops [⟨(some 5), none, .mov (.const (.slice none 0 0))⟩])
 (.seq
 (.seq
 (.ops [⟨(some 6), none, .mov (kc 0)⟩])
 (.block 0
 (.loop
 (.seq
 (.seq
 (.ops [⟨(some 18), none, .mov (tm 6)⟩,
 ⟨(some 19), none, .faddr 24 (tm 1) 1 1⟩,
 ⟨(some 20), none, .load 22 (tm 19) none⟩,
 ⟨(some 21), none, .len false 22 3 (tm 20)⟩,
 ⟨(some 22), none, .bin .lss 3 (tm 18) (tm 21)⟩])
 (.ite (tm 22)
 .skip
 (.exit 0)))
 (.seq
 (.block 1
 (.seq
 (.ops [⟨(some 25), none, .faddr 24 (tm 1) 1 1⟩,
 ⟨(some 26), none, .load 22 (tm 25) none⟩,
 ⟨(some 27), none, .mov (tm 6)⟩,
 ⟨(some 28), none, .iaddr 22 (tm 26) (tm 27) 2⟩,
 ⟨(some 29), none, .load 64 (tm 28) (some 2)⟩,
 ⟨(some 7), none, .alloc 64 [(.string ⟨#[]⟩), (.slice none 0 0)]⟩,
 ⟨none, none, .store 64 (tm 7) (tm 29) 2⟩])
 (.seq
 (.ops [⟨(some 30), none, .faddr 64 (tm 7) 0 0⟩,
 ⟨(some 31), none, .load 9 (tm 30) none⟩,
 ⟨(some 32), none, .mov (tm 5)⟩,
 ⟨(some 33), none, .call 62 [(tm 31), (tm 32)] 26⟩,
 ⟨(some 8), none, .mov (tm 33)⟩])
 (.seq
 (.ops [⟨(some 34), none, .mov (tm 5)⟩,
 ⟨(some 35), none, .faddr 64 (tm 7) 0 0⟩,
 ⟨(some 36), none, .load 9 (tm 35) none⟩,
 ⟨(some 37), none, .bslice 29 1 [(0, (tm 36))] 9 1 [(.string ⟨#[]⟩)]⟩,
 ⟨(some 38), none, .append 29 29 (tm 34) (tm 37) 9 1 16 [(.string ⟨#[]⟩)]⟩,
 ⟨(some 5), none, .mov (tm 38)⟩])
 (.seq
 (.seq
 (.ops [⟨(some 39), none, .mov (tm 8)⟩,
 ⟨(some 40), none, .bin .eql 26 (tm 39) (kc 0)⟩,
 ⟨(some 41), none, .mov (tm 40)⟩,
 ⟨(some 42), some (41, true), .faddr 64 (tm 7) 1 1⟩,
 ⟨(some 43), some (41, true), .load 62 (tm 42) none⟩,
 ⟨(some 44), some (41, true), .len false 62 3 (tm 43)⟩,
 ⟨(some 45), some (41, true), .bin .gtr 3 (tm 44) (kc 5)⟩,
 ⟨(some 46), none, .pick (tm 41) (tm 45) (.const (.bool false))⟩])
 (.ite (tm 46)
 (.ops [⟨(some 8), none, .mov (kc 3)⟩])
 .skip))
 (.seq
 (.seq
 (.ops [⟨(some 9), none, .mov (kc 0)⟩])
 (.block 2
 (.loop
 (.seq
 (.seq
 (.ops [⟨(some 47), none, .mov (tm 9)⟩,
 ⟨(some 48), none, .faddr 64 (tm 7) 1 1⟩,
 ⟨(some 49), none, .load 62 (tm 48) none⟩,
 ⟨(some 50), none, .len false 62 3 (tm 49)⟩,
 ⟨(some 51), none, .bin .lss 3 (tm 47) (tm 50)⟩,
 ⟨(some 52), none, .mov (tm 51)⟩,
 ⟨(some 53), some (52, true), .mov (tm 8)⟩,
 ⟨(some 54), some (52, true), .bin .eql 26 (tm 53) (kc 0)⟩,
 ⟨(some 55), none, .pick (tm 52) (tm 54) (.const (.bool false))⟩])
 (.ite (tm 55)
 .skip
 (.exit 2)))
 (.seq
 (.block 3
 (.ops [⟨(some 58), none, .faddr 64 (tm 7) 1 1⟩,
 ⟨(some 59), none, .load 62 (tm 58) none⟩,
 ⟨(some 60), none, .mov (tm 9)⟩,
 ⟨(some 61), none, .iaddr 62 (tm 59) (tm 60) 3⟩,
 ⟨(some 62), none, .load 84 (tm 61) (some 3)⟩,
 ⟨(some 63), none, .call 63 [(tm 62)] 26⟩,
 ⟨(some 8), none, .mov (tm 63)⟩]))
 (.ops [⟨(some 56), none, .mov (tm 9)⟩,
 ⟨(some 57), none, .bin .add 3 (tm 56) (kc 1)⟩,
 ⟨(some 9), none, .mov (tm 57)⟩]))))))
 (.seq
 (.ops [⟨(some 64), none, .mov (tm 8)⟩,
 ⟨(some 65), none, .bin .neq 26 (tm 64) (kc 0)⟩])
 (.ite (tm 65)
 (.seq
 (.ops [⟨(some 66), none, .mov (tm 6)⟩,
 ⟨(some 67), none, .mov (tm 8)⟩,
 ⟨(some 2), none, .mov (kc 2)⟩,
 ⟨(some 3), none, .mov (tm 66)⟩,
 ⟨(some 4), none, .mov (tm 67)⟩])
 .ret)
 .skip))))))))
 (.ops [⟨(some 23), none, .mov (tm 6)⟩,
 ⟨(some 24), none, .bin .add 3 (tm 23) (kc 1)⟩,
 ⟨(some 6), none, .mov (tm 24)⟩]))))))
 (.seq
 (.ops [⟨(some 2), none, .mov (kc 0)⟩,
 ⟨(some 3), none, .mov (kc 0)⟩,
 ⟨(some 4), none, .mov (kc 0)⟩])
 .ret))))))
theorem fn17 : FnOK Try.prog 17 68 [.tmp 2, .tmp 3, .tmp 4] L17 := ⟨Try.f17, Try.func17, by kernel_rfl, Try.ntmps17, by rw [Try.results17], by kernel_rfl⟩
def L43 : LCode :=
 (.seq
 (.ops [⟨(some 1), none, .box 24 (tm 0)⟩,
 ⟨(some 2), none, .mov (.const (.bool false))⟩])
 (.seq
 (.ops [⟨(some 7), none, .load 24 (tm 1) (some 2)⟩,
 ⟨(some 8), none, .call 17 [(tm 7)] 27⟩,
 ⟨(some 6), none, .mov (tm 8)⟩,
 ⟨(some 9), none, .extract (tm 6) 0⟩,
 ⟨(some 10), none, .extract (tm 6) 1⟩,
 ⟨(some 11), none, .extract (tm 6) 2⟩,
 ⟨(some 3), none, .mov (tm 9)⟩,
 ⟨(some 4), none, .mov (tm 10)⟩,
 ⟨(some 5), none, .mov (tm 11)⟩])
 (.seq
 (.ops [⟨(some 12), none, .mov (tm 5)⟩,
 ⟨(some 13), none, .bin .eql 26 (tm 12) (kc 0)⟩,
 ⟨(some 2), none, .mov (tm 13)⟩])
 .ret)))
theorem fn43 : FnOK Try.prog 43 14 [.tmp 2] L43 := ⟨Try.f43, Try.func43, by kernel_rfl, Try.ntmps43, by rw [Try.results43], by kernel_rfl⟩
def L46 : LCode :=
 (.seq
 (.ops [⟨(some 4), none, .mov (.const (.bool false))⟩])
 (.seq
 (.ops [⟨(some 5), none, .mov (.const (.bool false))⟩])
 (.seq
 (.seq
 (.ops [⟨(some 6), none, .mov (kc 0)⟩])
 (.block 0
 (.loop
 (.seq
 (.seq
 (.ops [⟨(some 7), none, .mov (tm 6)⟩,
 ⟨(some 8), none, .mov (tm 0)⟩,
 ⟨(some 9), none, .len false 35 3 (tm 8)⟩,
 ⟨(some 10), none, .bin .lss 3 (tm 7) (tm 9)⟩])
 (.ite (tm 10)
 .skip
 (.exit 0)))
 (.seq
 (.block 1
 (.ops [⟨(some 13), none, .mov (tm 5)⟩,
 ⟨(some 14), none, .mov (tm 13)⟩,
 ⟨(some 15), some (14, false), .mov (tm 0)⟩,
 ⟨(some 16), some (14, false), .mov (tm 6)⟩,
 ⟨(some 17), some (14, false), .iaddr 35 (tm 15) (tm 16) 1⟩,
 ⟨(some 18), some (14, false), .load 3 (tm 17) none⟩,
 ⟨(some 19), some (14, false), .mov (tm 1)⟩,
 ⟨(some 20), some (14, false), .bin .eql 3 (tm 18) (tm 19)⟩,
 ⟨(some 21), none, .pick (tm 14) (.const (.bool true)) (tm 20)⟩,
 ⟨(some 5), none, .mov (tm 21)⟩]))
 (.ops [⟨(some 11), none, .mov (tm 6)⟩,
 ⟨(some 12), none, .bin .add 3 (tm 11) (kc 1)⟩,
 ⟨(some 6), none, .mov (tm 12)⟩]))))))
 (.seq
 (.ops [⟨(some 22), none, .mov (tm 5)⟩,
 ⟨(some 4), none, .mov (tm 22)⟩])
 .ret))))
theorem fn46 : FnOK Try.prog 46 23 [.tmp 4] L46 := ⟨Try.f46, Try.func46, by kernel_rfl, Try.ntmps46, by rw [Try.results46], by kernel_rfl⟩
def L48 : LCode :=
 (.seq
 (.ops [⟨(some 2), none, .mov (kc 0)⟩])
 (.seq
 (.seq
 (.ops [⟨(some 3), none, .mov (tm 0)⟩,
 ⟨(some 4), none, .len false 29 3 (tm 3)⟩,
 ⟨(some 5), none, .bin .gtr 3 (tm 4) (kc 15)⟩])
 (.ite (tm 5)
 (.seq
 (.ops [⟨(some 2), none, .mov (kc 3)⟩])
 .ret)
 .skip))
 (.seq
 (.seq
 (.ops [⟨(some 6), none, .mov (tm 0)⟩,
 ⟨(some 7), none, .call 95 [(tm 6)] 4⟩,
 ⟨(some 8), none, .un .not (tm 7)⟩])
 (.ite (tm 8)
 (.seq
 (.ops [⟨(some 2), none, .mov (kc 6)⟩])
 .ret)
 .skip))
 (.seq
 (.ops [⟨(some 2), none, .mov (kc 0)⟩])
 .ret))))
theorem fn48 : FnOK Try.prog 48 9 [.tmp 2] L48 := ⟨Try.f48, Try.func48, by kernel_rfl, Try.ntmps48, by rw [Try.results48], by kernel_rfl⟩
def L53 : LCode :=
 (.seq
 (.ops [⟨(some 6), none, .mov (.const (.bool false))⟩])
 (.seq
 (.ops [⟨(some 7), none, .mov (tm 0)⟩,
 ⟨(some 8), none, .mov (tm 1)⟩,
 ⟨(some 9), none, .bin .geq 3 (tm 7) (tm 8)⟩,
 ⟨(some 10), none, .mov (tm 9)⟩,
 ⟨(some 11), some (10, true), .mov (tm 0)⟩,
 ⟨(some 12), some (10, true), .mov (tm 2)⟩,
 ⟨(some 13), some (10, true), .bin .leq 3 (tm 11) (tm 12)⟩,
 ⟨(some 14), none, .pick (tm 10) (tm 13) (.const (.bool false))⟩,
 ⟨(some 6), none, .mov (tm 14)⟩])
 .ret))
theorem fn53 : FnOK Try.prog 53 15 [.tmp 6] L53 := ⟨Try.f53, Try.func53, by kernel_rfl, Try.ntmps53, by rw [Try.results53], by kernel_rfl⟩
def L54 : LCode :=
 (.seq
 (.ops [⟨(some 4), none, .mov (.const (.bool false))⟩])
 (.seq
 (.ops [⟨(some 5), none, .mov (kc (-1))⟩])
 (.seq
 (.seq
 (.ops [⟨(some 6), none, .mov (kc 0)⟩])
 (.block 0
 (.loop
 (.seq
 (.seq
 (.ops [⟨(some 7), none, .mov (tm 6)⟩,
 ⟨(some 8), none, .mov (tm 0)⟩,
 ⟨(some 9), none, .len false 35 3 (tm 8)⟩,
 ⟨(some 10), none, .bin .lss 3 (tm 7) (tm 9)⟩])
 (.ite (tm 10)
 .skip
 (.exit 0)))
 (.seq
 (.block 1
 (.seq
 (.seq
 (.ops [⟨(some 13), none, .mov (tm 0)⟩,
 ⟨(some 14), none, .mov (tm 6)⟩,
 ⟨(some 15), none, .iaddr 35 (tm 13) (tm 14) 1⟩,
 ⟨(some 16), none, .load 3 (tm 15) none⟩,
 ⟨(some 17), none, .mov (tm 5)⟩,
 ⟨(some 18), none, .bin .leq 3 (tm 16) (tm 17)⟩,
 ⟨(some 19), none, .mov (tm 18)⟩,
 ⟨(some 20), some (19, false), .mov (tm 0)⟩,
 ⟨(some 21), some (19, false), .mov (tm 6)⟩,
 ⟨(some 22), some (19, false), .iaddr 35 (tm 20) (tm 21) 1⟩,
 ⟨(some 23), some (19, false), .load 3 (tm 22) none⟩,
 ⟨(some 24), some (19, false), .mov (tm 1)⟩,
 ⟨(some 25), some (19, false), .bin .geq 3 (tm 23) (tm 24)⟩,
 ⟨(some 26), none, .pick (tm 19) (.const (.bool true)) (tm 25)⟩])
 (.ite (tm 26)
 (.seq
 (.ops [⟨(some 4), none, .mov (.const (.bool false))⟩])
 .ret)
 .skip))
 (.ops [⟨(some 27), none, .mov (tm 0)⟩,
 ⟨(some 28), none, .mov (tm 6)⟩,
 ⟨(some 29), none, .iaddr 35 (tm 27) (tm 28) 1⟩,
 ⟨(some 30), none, .load 3 (tm 29) none⟩,
 ⟨(some 5), none, .mov (tm 30)⟩])))
 (.ops [⟨(some 11), none, .mov (tm 6)⟩,
 ⟨(some 12), none, .bin .add 3 (tm 11) (kc 1)⟩,
 ⟨(some 6), none, .mov (tm 12)⟩]))))))
 (.seq
 (.ops [⟨(some 4), none, .mov (.const (.bool true))⟩])
 .ret))))
theorem fn54 : FnOK Try.prog 54 31 [.tmp 4] L54 := ⟨Try.f54, Try.func54, by kernel_rfl, Try.ntmps54, by rw [Try.results54], by kernel_rfl⟩
def L55 : LCode :=
 (.seq
 (.ops [⟨(some 1), none, .box 84 (tm 0)⟩,
 ⟨(some 2), none, .mov (.const (.bool false))⟩])
 (.seq
 (.ops [⟨(some 3), none, .faddr 84 (tm 1) 0 0⟩,
 ⟨(some 4), none, .load 29 (tm 3) none⟩,
 ⟨(some 5), none, .len false 29 3 (tm 4)⟩,
 ⟨(some 6), none, .bin .eql 3 (tm 5) (kc 0)⟩,
 ⟨(some 2), none, .mov (tm 6)⟩])
 .ret))
theorem fn55 : FnOK Try.prog 55 7 [.tmp 2] L55 := ⟨Try.f55, Try.func55, by kernel_rfl, Try.ntmps55, by rw [Try.results55], by kernel_rfl⟩
def L62 : LCode :=
 (.seq
 (.ops [⟨(some 4), none, .mov (kc 0)⟩])
 (.seq
 (.ops [⟨(some 5), none, .mov (kc 0)⟩])
 (.seq
 (.seq
 (.ops [⟨(some 6), none, .mov (tm 1)⟩,
 ⟨(some 7), none, .mov (tm 0)⟩,
 ⟨(some 8), none, .call 100 [(tm 6), (tm 7)] 3⟩,
 ⟨(some 9), none, .bin .geq 3 (tm 8) (kc 0)⟩])
 (.ite (tm 9)
 (.ops [⟨(some 5), none, .mov (kc 5)⟩])
 .skip))
 (.seq
 (.seq
 (.ops [⟨(some 10), none, .mov (tm 0)⟩,
 ⟨(some 11), none, .call 101 [(tm 10)] 4⟩,
 ⟨(some 12), none, .un .not (tm 11)⟩])
 (.ite (tm 12)
 (.ops [⟨(some 5), none, .mov (kc 6)⟩])
 .skip))
 (.seq
 (.ops [⟨(some 13), none, .mov (tm 5)⟩,
 ⟨(some 4), none, .mov (tm 13)⟩])
 .ret)))))
theorem fn62 : FnOK Try.prog 62 14 [.tmp 4] L62 := ⟨Try.f62, Try.func62, by kernel_rfl, Try.ntmps62, by rw [Try.results62], by kernel_rfl⟩
def L63 : LCode :=
 (.seq
 (.ops [⟨(some 1), none, .box 84 (tm 0)⟩,
 ⟨(some 2), none, .mov (kc 0)⟩])
 (.seq
 (.seq
 (.ops [⟨(some 3), none, .faddr 84 (tm 1) 0 0⟩,
 ⟨(some 4), none, .load 29 (tm 3) none⟩,
 ⟨(some 5), none, .len false 29 3 (tm 4)⟩,
 ⟨(some 6), none, .bin .gtr 3 (tm 5) (kc 3)⟩])
 (.ite (tm 6)
 (.seq
 (.ops [⟨(some 2), none, .mov (kc 3)⟩])
 .ret)
 .skip))
 (.seq
 (.seq
 (.ops [⟨(some 7), none, .faddr 84 (tm 1) 0 0⟩,
 ⟨(some 8), none, .load 29 (tm 7) none⟩,
 ⟨(some 9), none, .call 95 [(tm 8)] 4⟩,
 ⟨(some 10), none, .un .not (tm 9)⟩])
 (.ite (tm 10)
 (.seq
 (.ops [⟨(some 2), none, .mov (kc 6)⟩])
 .ret)
 .skip))
 (.seq
 (.seq
 (.ops [⟨(some 11), none, .load 84 (tm 1) (some 3)⟩,
 ⟨(some 12), none, .call 55 [(tm 11)] 4⟩,
 ⟨(some 13), none, .un .not (tm 12)⟩])
 (.ite (tm 13)
 (.seq
 (.seq
 (.ops [⟨(some 14), none, .faddr 84 (tm 1) 1 1⟩,
 ⟨(some 15), none, .load 82 (tm 14) (some 2)⟩,
 ⟨(some 16), none, .build 82 [] [(.int .i64 0), (.int .i64 0)] []⟩,
 ⟨(some 17), none, .eqT true 82 (tm 15) (tm 16)⟩])
 (.ite (tm 17)
 (.seq
 (.ops [⟨(some 2), none, .mov (kc 2)⟩])
 .ret)
 .skip))
 (.seq
 (.ops [⟨(some 2), none, .mov (kc 0)⟩])
 .ret))
 .skip))
 (.seq
 (.seq
 (.ops [⟨(some 18), none, .faddr 84 (tm 1) 1 1⟩,
 ⟨(some 19), none, .faddr 82 (tm 18) 0 0⟩,
 ⟨(some 20), none, .load 3 (tm 19) none⟩,
 ⟨(some 21), none, .call 53 [(tm 20), (kc 0), (kc 3)] 4⟩,
 ⟨(some 22), none, .un .not (tm 21)⟩,
 ⟨(some 23), none, .mov (tm 22)⟩,
 ⟨(some 24), some (23, false), .faddr 84 (tm 1) 1 1⟩,
 ⟨(some 25), some (23, false), .faddr 82 (tm 24) 1 1⟩,
 ⟨(some 26), some (23, false), .load 3 (tm 25) none⟩,
 ⟨(some 27), some (23, false), .call 53 [(tm 26), (kc 1), (kc 3)] 4⟩,
 ⟨(some 28), some (23, false), .un .not (tm 27)⟩,
 ⟨(some 29), none, .pick (tm 23) (.const (.bool true)) (tm 28)⟩])
 (.ite (tm 29)
 (.seq
 (.ops [⟨(some 2), none, .mov (kc 7)⟩])
 .ret)
 .skip))
 (.seq
 (.seq
 (.ops [⟨(some 30), none, .faddr 84 (tm 1) 1 1⟩,
 ⟨(some 31), none, .faddr 82 (tm 30) 0 0⟩,
 ⟨(some 32), none, .load 3 (tm 31) none⟩,
 ⟨(some 33), none, .faddr 84 (tm 1) 1 1⟩,
 ⟨(some 34), none, .faddr 82 (tm 33) 1 1⟩,
 ⟨(some 35), none, .load 3 (tm 34) none⟩,
 ⟨(some 36), none, .bin .gtr 3 (tm 32) (tm 35)⟩])
 (.ite (tm 36)
 (.seq
 (.ops [⟨(some 2), none, .mov (kc 2)⟩])
 .ret)
 .skip))
 (.seq
 (.ops [⟨(some 2), none, .mov (kc 0)⟩])
 .ret)))))))
theorem fn63 : FnOK Try.prog 63 37 [.tmp 2] L63 := ⟨Try.f63, Try.func63, by kernel_rfl, Try.ntmps63, by rw [Try.results63], by kernel_rfl⟩
def L95 : LCode :=
 (.seq
 (.ops [⟨(some 2), none, .mov (.const (.bool false))⟩])
 (.seq
 (.ops [⟨(some 3), none, .mov (.const (.bool true))⟩])
 (.seq
 (.seq
 (.ops [⟨(some 4), none, .mov (kc 0)⟩])
 (.block 0
 (.loop
 (.seq
 (.seq
 (.ops [⟨(some 5), none, .mov (tm 4)⟩,
 ⟨(some 6), none, .mov (tm 0)⟩,
 ⟨(some 7), none, .len false 29 3 (tm 6)⟩,
 ⟨(some 8), none, .bin .lss 3 (tm 5) (tm 7)⟩])
 (.ite (tm 8)
 .skip
 (.exit 0)))
 (.seq
 (.block 1
 (.ops [⟨(some 11), none, .mov (tm 3)⟩,
 ⟨(some 12), none, .mov (tm 11)⟩,
 ⟨(some 13), some (12, true), .mov (tm 0)⟩,
 ⟨(some 14), some (12, true), .mov (tm 4)⟩,
 ⟨(some 15), some (12, true), .iaddr 29 (tm 13) (tm 14) 1⟩,
 ⟨(some 16), some (12, true), .load 9 (tm 15) none⟩,
 ⟨(some 17), some (12, true), .call 123 [(tm 16)] 4⟩,
 ⟨(some 18), none, .pick (tm 12) (tm 17) (.const (.bool false))⟩,
 ⟨(some 3), none, .mov (tm 18)⟩]))
 (.ops [⟨(some 9), none, .mov (tm 4)⟩,
 ⟨(some 10), none, .bin .add 3 (tm 9) (kc 1)⟩,
 ⟨(some 4), none, .mov (tm 10)⟩]))))))
 (.seq
 (.ops [⟨(some 19), none, .mov (tm 3)⟩,
 ⟨(some 2), none, .mov (tm 19)⟩])
 .ret))))
theorem fn95 : FnOK Try.prog 95 20 [.tmp 2] L95 := ⟨Try.f95, Try.func95, by kernel_rfl, Try.ntmps95, by rw [Try.results95], by kernel_rfl⟩
def L100 : LCode :=
 (.seq
 (.ops [⟨(some 4), none, .mov (kc 0)⟩])
 (.seq
 (.ops [⟨(some 5), none, .mov (kc 0)⟩])
 (.seq
 (.block 0
 (.loop
 (.seq
 (.seq
 (.ops [⟨(some 6), none, .mov (tm 5)⟩,
 ⟨(some 7), none, .mov (tm 0)⟩,
 ⟨(some 8), none, .len false 29 3 (tm 7)⟩,
 ⟨(some 9), none, .bin .lss 3 (tm 6) (tm 8)⟩,
 ⟨(some 10), none, .mov (tm 9)⟩,
 ⟨(some 11), some (10, true), .mov (tm 0)⟩,
 ⟨(some 12), some (10, true), .mov (tm 5)⟩,
 ⟨(some 13), some (10, true), .iaddr 29 (tm 11) (tm 12) 1⟩,
 ⟨(some 14), some (10, true), .load 9 (tm 13) none⟩,
 ⟨(some 15), some (10, true), .mov (tm 1)⟩,
 ⟨(some 16), some (10, true), .bin .neq 9 (tm 14) (tm 15)⟩,
 ⟨(some 17), none, .pick (tm 10) (tm 16) (.const (.bool false))⟩])
 (.ite (tm 17)
 .skip
 (.exit 0)))
 (.block 1
 (.ops [⟨(some 18), none, .mov (tm 5)⟩,
 ⟨(some 19), none, .bin .add 3 (tm 18) (kc 1)⟩,
 ⟨(some 5), none, .mov (tm 19)⟩])))))
 (.seq
 (.seq
 (.ops [⟨(some 20), none, .mov (tm 5)⟩,
 ⟨(some 21), none, .mov (tm 0)⟩,
 ⟨(some 22), none, .len false 29 3 (tm 21)⟩,
 ⟨(some 23), none, .bin .eql 3 (tm 20) (tm 22)⟩])
 (.ite (tm 23)
 (.seq
 (.ops [⟨(some 4), none, .mov (kc (-1))⟩])
 .ret)
 .skip))
 (.seq
 (.ops [⟨(some 24), none, .mov (tm 5)⟩,
 ⟨(some 4), none, .mov (tm 24)⟩])
 .ret)))))
theorem fn100 : FnOK Try.prog 100 25 [.tmp 4] L100 := ⟨Try.f100, Try.func100, by kernel_rfl, Try.ntmps100, by rw [Try.results100], by kernel_rfl⟩
def L101 : LCode :=
 (.seq
 (.ops [⟨(some 2), none, .mov (.const (.bool false))⟩])
 (.seq
 (.ops [⟨(some 6), none, .mov (tm 0)⟩,
 ⟨(some 7), none, .len true 9 3 (tm 6)⟩,
 ⟨(some 8), none, .call 53 [(tm 7), (kc 1), (kc 16)] 4⟩,
 ⟨(some 3), none, .mov (tm 8)⟩])
 (.seq
 (.seq
 (.ops [⟨(some 4), none, .mov (kc 0)⟩])
 (.block 0
 (.loop
 (.seq
 (.seq
 (.ops [⟨(some 9), none, .mov (tm 4)⟩,
 ⟨(some 10), none, .mov (tm 0)⟩,
 ⟨(some 11), none, .len true 9 3 (tm 10)⟩,
 ⟨(some 12), none, .bin .lss 3 (tm 9) (tm 11)⟩])
 (.ite (tm 12)
 .skip
 (.exit 0)))
 (.seq
 (.block 1
 (.seq
 (.ops [⟨(some 15), none, .mov (tm 4)⟩,
 ⟨(some 16), none, .bin .gtr 3 (tm 15) (kc 0)⟩,
 ⟨(some 17), none, .mov (tm 16)⟩,
 ⟨(some 18), some (17, true), .mov (tm 0)⟩,
 ⟨(some 19), some (17, true), .mov (tm 4)⟩,
 ⟨(some 20), some (17, true), .indexS 9 (tm 18) (tm 19)⟩,
 ⟨(some 21), some (17, true), .bin .eql 5 (tm 20) (.const (.int .u8 46))⟩,
 ⟨(some 22), some (17, true), .mov (tm 21)⟩,
 ⟨(some 23), some (22, false), .mov (tm 0)⟩,
 ⟨(some 24), some (22, false), .mov (tm 4)⟩,
 ⟨(some 25), some (22, false), .indexS 9 (tm 23) (tm 24)⟩,
 ⟨(some 26), some (22, false), .toInt .i64 5 3 (tm 25)⟩,
 ⟨(some 27), some (22, false), .call 53 [(tm 26), (kc 48), (kc 57)] 4⟩,
 ⟨(some 28), some (17, true), .pick (tm 22) (.const (.bool true)) (tm 27)⟩,
 ⟨(some 29), none, .pick (tm 17) (tm 28) (.const (.bool false))⟩,
 ⟨(some 5), none, .mov (tm 29)⟩])
 (.ops [⟨(some 30), none, .mov (tm 3)⟩,
 ⟨(some 31), none, .mov (tm 30)⟩,
 ⟨(some 32), some (31, true), .mov (tm 0)⟩,
 ⟨(some 33), some (31, true), .mov (tm 4)⟩,
 ⟨(some 34), some (31, true), .indexS 9 (tm 32) (tm 33)⟩,
 ⟨(some 35), some (31, true), .toInt .i64 5 3 (tm 34)⟩,
 ⟨(some 36), some (31, true), .call 53 [(tm 35), (kc 97), (kc 122)] 4⟩,
 ⟨(some 37), some (31, true), .mov (tm 36)⟩,
 ⟨(some 38), some (37, false), .mov (tm 5)⟩,
 ⟨(some 39), some (31, true), .pick (tm 37) (.const (.bool true)) (tm 38)⟩,
 ⟨(some 40), none, .pick (tm 31) (tm 39) (.const (.bool false))⟩,
 ⟨(some 3), none, .mov (tm 40)⟩])))
 (.ops [⟨(some 13), none, .mov (tm 4)⟩,
 ⟨(some 14), none, .bin .add 3 (tm 13) (kc 1)⟩,
 ⟨(some 4), none, .mov (tm 14)⟩]))))))
 (.seq
 (.ops [⟨(some 41), none, .mov (tm 3)⟩,
 ⟨(some 2), none, .mov (tm 41)⟩])
 .ret))))
theorem fn101 : FnOK Try.prog 101 42 [.tmp 2] L101 := ⟨Try.f101, Try.func101, by kernel_rfl, Try.ntmps101, by rw [Try.results101], by kernel_rfl⟩
def L123 : LCode :=
 (.seq
 (.ops [⟨(some 2), none, .mov (.const (.bool false))⟩])
 (.seq
 (.seq
 (.ops [⟨(some 4), none, .mov (tm 0)⟩,
 ⟨(some 5), none, .len true 9 3 (tm 4)⟩,
 ⟨(some 6), none, .call 53 [(tm 5), (kc 1), (kc 8)] 4⟩,
 ⟨(some 7), none, .un .not (tm 6)⟩])
 (.ite (tm 7)
 (.seq
 (.ops [⟨(some 2), none, .mov (.const (.bool false))⟩])
 .ret)
 .skip))
 (.seq
 (.seq
 (.ops [⟨(some 3), none, .mov (kc 0)⟩])
 (.block 0
 (.loop
 (.seq
 (.seq
 (.ops [⟨(some 8), none, .mov (tm 3)⟩,
 ⟨(some 9), none, .mov (tm 0)⟩,
 ⟨(some 10), none, .len true 9 3 (tm 9)⟩,
 ⟨(some 11), none, .bin .lss 3 (tm 8) (tm 10)⟩])
 (.ite (tm 11)
 .skip
 (.exit 0)))
 (.seq
 (.block 1
 (.seq
 (.ops [⟨(some 14), none, .mov (tm 0)⟩,
 ⟨(some 15), none, .mov (tm 3)⟩,
 ⟨(some 16), none, .indexS 9 (tm 14) (tm 15)⟩,
 ⟨(some 17), none, .bin .lss 5 (tm 16) (.const (.int .u8 97))⟩,
 ⟨(some 18), none, .mov (tm 17)⟩,
 ⟨(some 19), some (18, false), .mov (tm 0)⟩,
 ⟨(some 20), some (18, false), .mov (tm 3)⟩,
 ⟨(some 21), some (18, false), .indexS 9 (tm 19) (tm 20)⟩,
 ⟨(some 22), some (18, false), .bin .gtr 5 (tm 21) (.const (.int .u8 122))⟩,
 ⟨(some 23), none, .pick (tm 18) (.const (.bool true)) (tm 22)⟩])
 (.ite (tm 23)
 (.seq
 (.ops [⟨(some 2), none, .mov (.const (.bool false))⟩])
 .ret)
 .skip)))
 (.ops [⟨(some 12), none, .mov (tm 3)⟩,
 ⟨(some 13), none, .bin .add 3 (tm 12) (kc 1)⟩,
 ⟨(some 3), none, .mov (tm 13)⟩]))))))
 (.seq
 (.ops [⟨(some 2), none, .mov (.const (.bool true))⟩])
 .ret))))
theorem fn123 : FnOK Try.prog 123 24 [.tmp 2] L123 := ⟨Try.f123, Try.func123, by kernel_rfl, Try.ntmps123, by rw [Try.results123], by kernel_rfl⟩
end Go.Px

namespace Go.Px
open Go.Proofs
theorem in_ev (n lo hi : Int) : Ev Try.prog 53 [I n, I lo, I hi] (B (decide (lo ≤ n) && decide (n ≤ hi))) := by
  refine Ev.intro fn53 ?_
  refine LWp.sx (gs := []) (hs := []) rfl trivial ?_
  by_cases h : lo ≤ n
  · refine LWp.sx (gs := [(10, true)]) (hs := []) rfl (by simp [h]) ?_
    refine LWp.ret (retT (.inr rfl) (.one (.tmp ?_ rfl)))
    show B _ = B _
    simp [h]
  · refine LWp.sx (gs := [(10, false)]) (hs := []) rfl (by simp [h]) ?_
    refine LWp.ret (retT (.inr rfl) (.one (.tmp ?_ rfl)))
    show B _ = B _
    simp [h]
theorem has_ev (l : List Int) (n : Int) : Ev Try.prog 46 [ints l, I n] (B (l.any (· == n))) := by
  refine Ev.intro fn46 ?_
  refine LWp.slLen 0 rfl fun ha => ?_
  simp only [List.length_map] at ha
  refine LWp.sx (gs := []) (hs := []) rfl trivial ?_
  refine LWp.sx (gs := []) (hs := []) rfl trivial ?_
  refine LWp.seq ?_
  refine LWp.sx (gs := []) (hs := []) rfl trivial ?_
  refine LWp.blockT (fun _ : Unit => True) (fun _ => el [(5, B (l.any (· == n)))]) (fun _ => []) (fun _ => []) ?_ ?_
  · refine LWp.loopN (fun k : Nat => k ≤ l.length) (fun k => el [(0, ints l), (1, I n), (5, B ((l.take k).any (· == n))), (6, I k)]) (fun _ => []) (fun _ => []) (fun k => l.length - k) 0 (by omega)
      (Ent.el ⟨rfl, rfl, rfl, rfl, trivial⟩) ?_
    intro k hk
    refine LWp.seq (LWp.seq ?_)
    refine LWp.x (gs := []) (hs := []) rfl trivial ?_
    refine LWp.ite rfl (fun hc => ?_) (fun hc => ?_)
    · simp only [List.length_map, decide_eq_true_eq, Int.ofNat_lt] at hc
      have hx : l[k]? = some l[k] := by simp
      refine LWp.skip (LWp.seq (LWp.block ?_))
      have ht : (l.take (k + 1)).any (· == n) = ((l.take k).any (· == n) || l[k] == n) := by
        rw [List.take_succ_eq_append_getElem hc, List.any_append]; simp
      cases hm : (l.take k).any (· == n) with
      | true =>
        rw [hm] at ht
        refine LWp.x (gs := [(14, true)]) (hs := []) rfl (by simp) ?_
        refine LWp.x (gs := []) (hs := []) rfl ⟨by omega, trivial⟩ ?_
        exact ⟨k + 1, hc, by omega, Ent.el ⟨rfl, rfl, by rw [ht]; rfl, rfl, trivial⟩⟩
      | false =>
        rw [hm] at ht
        refine LWp.x (gs := [(14, false)]) (hs := [.cells [I l[k]]]) rfl (by simp [hc]) ?_
        refine LWp.x (gs := []) (hs := []) rfl ⟨by omega, trivial⟩ ?_
        exact ⟨k + 1, hc, by omega, Ent.el ⟨rfl, rfl, by rw [ht]; rfl, rfl, trivial⟩⟩
    · simp only [List.length_map, decide_eq_false_iff_not, Int.ofNat_lt] at hc
      refine LWp.exit ⟨(), trivial, Ent.el ⟨?_, trivial⟩⟩
      show B _ = B _
      rw [List.take_of_length_le (by omega)]
  · intro _ _
    refine LWp.sx (gs := []) (hs := []) rfl trivial ?_
    refine LWp.ret (retT (.inr rfl) (.one (.tmp ?_ rfl)))
    rfl
end Go.Px

namespace Go.Px
open Go.Proofs
theorem inB_not (n lo hi : Int) : (!(decide (lo ≤ n) && decide (n ≤ hi))) = beyondB lo hi [n] := by
  rw [Bool.eq_iff_iff]; simp [beyondB]
theorem rname_ev (l : List UInt8) (hl : l.length ≤ 9223372036854775807) : Ev Try.prog 101 [Str l] (B (nameB l)) := by
  refine Ev.intro fn101 ?_
  refine LWp.sx (gs := []) (hs := []) rfl trivial ?_
  refine LWp.sx (gs := []) (hs := [.ret (B (decide (1 ≤ (l.length : Int)) && decide ((l.length : Int) ≤ 16)))]) rfl ⟨in_ev _ 1 16, trivial⟩ ?_
  refine LWp.seq (LWp.seq ?_)
  refine LWp.x (gs := []) (hs := []) rfl trivial ?_
  generalize hF : (decide (1 ≤ (l.length : Int)) && decide ((l.length : Int) ≤ 16)) = F
  have hnb : nameB l = (allN l 0 && F) := by
    unfold nameB
    rw [← hF]
    congr 1
    rw [Bool.eq_iff_iff]; simp; omega
  refine LWp.blockT (fun _ : Unit => True) (fun _ => el [(3, B (nameB l))]) (fun _ => []) (fun _ => []) ?_ ?_
  · refine LWp.loopN (X := Nat × Bool) (fun x => x.1 ≤ l.length ∧ nameB l = (allN (l.drop x.1) x.1 && x.2)) (fun x => el [(0, Str l), (3, B x.2), (4, I x.1)]) (fun _ => []) (fun _ => []) (fun x => l.length - x.1) (0, F) ⟨by simp, hnb⟩
      (Ent.el ⟨rfl, rfl, rfl, trivial⟩) ?_
    rintro ⟨k, f⟩ ⟨hk, hi⟩
    simp only at hk hi ⊢
    refine LWp.seq (LWp.seq ?_)
    refine LWp.x (gs := []) (hs := []) rfl trivial ?_
    refine LWp.ite rfl (fun hc => ?_) (fun hc => ?_)
    · simp only [decide_eq_true_eq] at hc
      have hc' : k < l.length := by have : ((k : Int) < (l.length : Int)) := hc; omega
      obtain ⟨c, hx⟩ := ex_get hc'
      rw [drop_cons hx, allN] at hi
      have hby : (⟨l.toArray⟩ : ByteArray).data.toList[((k : Nat) : Int).toNat]? = some c := by simpa using hx
      have hco : ∀ m : Int, IntKind.i64.wrap ((c.toNat : Nat) : Int) = c.toNat := by
        intro _
        exact i64_wrap (by omega) (by have := c.toNat_lt; omega)
      refine LWp.skip ?_
      refine LWp.blockX (fun _ : Unit => True) (fun _ => el [(0, Str l), (3, B (f && okc k c.toNat)), (4, I k)]) (fun _ => []) (fun _ => []) ?_ ?_
      · refine LWp.cutX (fun _ : Unit => True) (fun _ => el [(0, Str l), (3, B f), (4, I k), (5, B (decide (0 < k) && (c.toNat == 46 || (decide (48 ≤ c.toNat) && decide (c.toNat ≤ 57)))))]) (fun _ => []) (fun _ => []) ?_ ?_
        · by_cases h0 : 0 < k
          · by_cases h1 : c.toNat = 46
            · refine LWp.x (gs := [(17, true), (22, true)]) (hs := [.byte c]) rfl (by simp [h0, h1, hx]) ?_
              exact ⟨(), trivial, Ent.el ⟨rfl, rfl, rfl, by show B _ = B _; simp [h0, h1], trivial⟩⟩
            · have h1' : ¬ ((c.toNat : Int) = 46) := by omega
              refine LWp.x (gs := [(17, true), (22, false)]) (hs := [.byte c, .byte c, .ret (B (decide ((48 : Int) ≤ c.toNat) && decide ((c.toNat : Int) ≤ 57)))]) rfl (by simp [h0, h1', hx]; exact ⟨hco 0, in_ev _ 48 57⟩) ?_
              refine ⟨(), trivial, Ent.el ⟨rfl, rfl, rfl, ?_, trivial⟩⟩
              show B _ = B _
              have e : (decide ((48 : Int) ≤ c.toNat) && decide ((c.toNat : Int) ≤ 57)) = (decide (48 ≤ c.toNat) && decide (c.toNat ≤ 57)) := by rw [Bool.eq_iff_iff]; simp; omega
              rw [e]; simp [h0, h1]
          · have h0' : k = 0 := by omega
            subst h0'
            refine LWp.x (gs := [(17, false)]) (hs := []) rfl (by simp) ?_
            exact ⟨(), trivial, Ent.el ⟨rfl, rfl, rfl, by show B _ = B _; simp, trivial⟩⟩
        intro _ _
        generalize hg : (decide (0 < k) && (c.toNat == 46 || (decide (48 ≤ c.toNat) && decide (c.toNat ≤ 57)))) = g
        have hok : okc k c.toNat = ((decide (97 ≤ c.toNat) && decide (c.toNat ≤ 122)) || g) := by rw [← hg]; rfl
        cases f with
        | false =>
          refine LWp.x (gs := [(31, false)]) (hs := []) rfl (by simp) ?_
          exact ⟨(), trivial, Ent.el ⟨rfl, by show B _ = B _; simp, rfl, trivial⟩⟩
        | true =>
          have e : (decide ((97 : Int) ≤ c.toNat) && decide ((c.toNat : Int) ≤ 122)) = (decide (97 ≤ c.toNat) && decide (c.toNat ≤ 122)) := by rw [Bool.eq_iff_iff]; simp; omega
          rw [← e] at hok
          generalize hq : (decide ((97 : Int) ≤ c.toNat) && decide ((c.toNat : Int) ≤ 122)) = q at hok
          have hin : Ev Try.prog 53 [I c.toNat, I 97, I 122] (B q) := by rw [← hq]; exact in_ev _ 97 122
          cases q with
          | true =>
            refine LWp.x (gs := [(31, true), (37, true)]) (hs := [.byte c, .ret (B true)]) rfl (by simp [hx]; exact ⟨hco 0, hin⟩) ?_
            exact ⟨(), trivial, Ent.el ⟨rfl, by show B _ = B _; simp [hok], rfl, trivial⟩⟩
          | false =>
            refine LWp.x (gs := [(31, true), (37, false)]) (hs := [.byte c, .ret (B false)]) rfl (by simp [hx]; exact ⟨hco 0, hin⟩) ?_
            exact ⟨(), trivial, Ent.el ⟨rfl, by show B _ = B _; simp [hok], rfl, trivial⟩⟩
      intro _ _
      refine LWp.x (gs := []) (hs := []) rfl ⟨by omega, trivial⟩ ?_
      refine ⟨(k + 1, f && okc k c.toNat), ⟨hc', ?_⟩, by simp only; omega, Ent.el ⟨rfl, rfl, rfl, trivial⟩⟩
      rw [hi]
      cases f <;> cases okc k c.toNat <;> simp
    · simp only [decide_eq_false_iff_not] at hc
      have hc' : ¬ k < l.length := by have : ¬ ((k : Int) < (l.length : Int)) := hc; omega
      have hf : nameB l = f := by rw [hi, drop_nil hc']; simp [allN]
      exact LWp.exit ⟨(), trivial, Ent.el ⟨by rw [hf]; rfl, trivial⟩⟩
  · intro _ _
    refine LWp.sx (gs := []) (hs := []) rfl trivial ?_
    refine LWp.ret (retT (.inr rfl) (.one (.tmp ?_ rfl)))
    rfl
theorem where_ev (l : List (List UInt8)) (s : List UInt8) : Ev Try.prog 100 [strs l, Str s] (I (idxF (fun x => x == s) l 0)) := by
  refine Ev.intro fn100 ?_
  refine LWp.slLen 0 rfl fun ha => ?_
  simp only [List.length_map] at ha
  refine LWp.sx (gs := []) (hs := []) rfl trivial ?_
  refine LWp.sx (gs := []) (hs := []) rfl trivial ?_
  refine LWp.blockX (fun k : Nat => k ≤ l.length ∧ idxF (fun x => x == s) l 0 = if k = l.length then -1 else (k : Int)) (fun k => el [(0, strs l), (5, I k)]) (fun _ => []) (fun _ => []) ?_ ?_
  · refine LWp.loopN (fun k : Nat => k ≤ l.length ∧ idxF (fun x => x == s) l 0 = idxF (fun x => x == s) (l.drop k) k) (fun k => el [(0, strs l), (1, Str s), (5, I k)]) (fun _ => []) (fun _ => []) (fun k => l.length - k) 0 ⟨by omega, rfl⟩
      (Ent.el ⟨rfl, rfl, rfl, trivial⟩) ?_
    rintro k ⟨hk, hi⟩
    refine LWp.seq (LWp.seq ?_)
    by_cases hc : k < l.length
    · obtain ⟨x, hx⟩ := ex_get hc
      rw [drop_cons hx, idxF] at hi
      refine LWp.x (gs := [(10, true)]) (hs := [.cells [Str x]]) rfl (by simp [hc, (List.getElem?_eq_some_iff.1 hx).2]) ?_
      refine LWp.ite rfl (fun hb => ?_) (fun hb => ?_)
      · have hne : ¬ ((x == s) = true) := by
          have hb : (!((⟨x.toArray⟩ : ByteArray).toList == (⟨s.toArray⟩ : ByteArray).toList)) = true := hb
          intro h
          rw [eq_of_beq h] at hb
          simp at hb
        rw [if_neg hne] at hi
        refine LWp.skip (LWp.block ?_)
        refine LWp.x (gs := []) (hs := []) rfl ⟨by omega, trivial⟩ ?_
        exact ⟨k + 1, ⟨hc, hi⟩, by omega, Ent.el ⟨rfl, rfl, rfl, trivial⟩⟩
      · have heq : (x == s) = true := by
          have hb : (!((⟨x.toArray⟩ : ByteArray).toList == (⟨s.toArray⟩ : ByteArray).toList)) = false := hb
          simp at hb
          simpa using hb
        rw [if_pos heq] at hi
        exact LWp.exit ⟨k, ⟨hk, by rw [hi, if_neg (by omega)]⟩, Ent.el ⟨rfl, rfl, trivial⟩⟩
    · rw [drop_nil hc] at hi
      refine LWp.x (gs := [(10, false)]) (hs := []) rfl (by simp [hc]) ?_
      refine LWp.ite (b := false) rfl (fun hb => by cases hb) (fun hb => ?_)
      exact LWp.exit ⟨k, ⟨hk, by rw [hi, if_pos (by omega)]; rfl⟩, Ent.el ⟨rfl, rfl, trivial⟩⟩
  · rintro k ⟨hk, hi⟩
    refine LWp.seq (LWp.seq ?_)
    refine LWp.x (gs := []) (hs := []) rfl trivial ?_
    refine LWp.ite rfl (fun hb => ?_) (fun hb => ?_)
    · simp only [List.length_map, beq_iff_eq, Int.natCast_inj] at hb
      refine LWp.sx (gs := []) (hs := []) rfl trivial ?_
      refine LWp.ret (retT (.inr rfl) (.one (.tmp ?_ rfl)))
      rw [hi, if_pos hb]; rfl
    · simp only [List.length_map, beq_eq_false_iff_ne, ne_eq, Int.natCast_inj] at hb
      refine LWp.skip ?_
      refine LWp.sx (gs := []) (hs := []) rfl trivial ?_
      refine LWp.ret (retT (.inr rfl) (.one (.tmp ?_ rfl)))
      rw [hi, if_neg hb]; rfl
def freshE (s : List UInt8) (l : List (List UInt8)) : Int := if nameB s = true then (if l.any (fun x => x == s) = true then 5 else 0) else 6
theorem fresh_ev (s : List UInt8) (hl : s.length ≤ 9223372036854775807) (l : List (List UInt8)) : Ev Try.prog 62 [Str s, strs l] (I (freshE s l)) := by
  refine Ev.intro fn62 ?_
  refine LWp.sx (gs := []) (hs := []) rfl trivial ?_
  refine LWp.sx (gs := []) (hs := []) rfl trivial ?_
  refine LWp.cutX (fun _ : Unit => True) (fun _ => el [(0, Str s), (5, I (if l.any (fun x => x == s) = true then 5 else 0))]) (fun _ => []) (fun _ => []) ?_ ?_
  · refine LWp.sx (gs := []) (hs := [.ret (I (idxF (fun x => x == s) l 0))]) rfl ⟨where_ev l s, trivial⟩ ?_
    have hg := idxF_ge (fun x => x == s) l 0 (by omega)
    refine LWp.ite rfl (fun hb => ?_) (fun hb => ?_)
    · rw [hg] at hb
      refine LWp.x (gs := []) (hs := []) rfl trivial ?_
      exact ⟨(), trivial, Ent.el ⟨rfl, by rw [hb]; rfl, trivial⟩⟩
    · rw [hg] at hb
      exact LWp.skip ⟨(), trivial, Ent.el ⟨rfl, by rw [hb]; rfl, trivial⟩⟩
  intro _ _
  refine LWp.cutX (fun _ : Unit => True) (fun _ => el [(5, I (freshE s l))]) (fun _ => []) (fun _ => []) ?_ ?_
  · refine LWp.sx (gs := []) (hs := [.ret (B (nameB s))]) rfl ⟨rname_ev s hl, trivial⟩ ?_
    refine LWp.ite rfl (fun hb => ?_) (fun hb => ?_)
    · simp only [Bool.not_eq_true'] at hb
      refine LWp.x (gs := []) (hs := []) rfl trivial ?_
      exact ⟨(), trivial, Ent.el ⟨by simp only [freshE, hb, Bool.false_eq_true, if_false]; rfl, trivial⟩⟩
    · simp only [Bool.not_eq_false'] at hb
      exact LWp.skip ⟨(), trivial, Ent.el ⟨by simp only [freshE, hb, if_true]; rfl, trivial⟩⟩
  intro _ _
  refine LWp.sx (gs := []) (hs := []) rfl trivial ?_
  refine LWp.ret (retT (.inr rfl) (.one (.tmp ?_ rfl)))
  rfl
end Go.Px

namespace Go.Px
theorem scr_all_put : ∀ ss : List Wd, Scr [] ss ss.length
  | [] => .nil
  | _ :: ss => .put (scr_all_put ss)
theorem scr_far : ∀ (ws ss : List Wd), Scr ws ss (far ws ss)
  | [], ss => scr_all_put ss
  | w :: ws, ss => by
    induction ss with
    | nil => exact .drop (scr_far ws [])
    | cons s ss ih =>
      have h1 := scr_far ws ss
      have h2 := scr_far ws (s :: ss)
      rw [far_cons]
      by_cases hf : fitB s w = true
      · rw [if_pos hf]
        rcases Nat.le_total (far ws ss) (min (1 + far ws (s :: ss)) (1 + far (w :: ws) ss)) with h | h
        · rw [Nat.min_eq_left h]; exact .keep hf h1
        · rw [Nat.min_eq_right h]
          rcases Nat.le_total (1 + far ws (s :: ss)) (1 + far (w :: ws) ss) with g | g
          · rw [Nat.min_eq_left g, Nat.add_comm]; exact .drop h2
          · rw [Nat.min_eq_right g, Nat.add_comm]; exact .put ih
      · rw [if_neg hf]
        rcases Nat.le_total (1 + far ws ss) (min (1 + far ws (s :: ss)) (1 + far (w :: ws) ss)) with h | h
        · rw [Nat.min_eq_left h, Nat.add_comm]; exact .turn h1
        · rw [Nat.min_eq_right h]
          rcases Nat.le_total (1 + far ws (s :: ss)) (1 + far (w :: ws) ss) with g | g
          · rw [Nat.min_eq_left g, Nat.add_comm]; exact .drop h2
          · rw [Nat.min_eq_right g, Nat.add_comm]; exact .put ih
theorem far_put (ws : List Wd) (s : Wd) (ss : List Wd) : far ws (s :: ss) ≤ far ws ss + 1 := by
  cases ws with
  | nil => simp [far]
  | cons w ws => rw [far_cons]; split <;> omega
theorem far_turn (w : Wd) (ws : List Wd) (s : Wd) (ss : List Wd) : far (w :: ws) (s :: ss) ≤ far ws ss + 1 := by
  rw [far_cons]; split <;> omega
theorem far_keep {w : Wd} {ws : List Wd} {s : Wd} {ss : List Wd} (h : fitB s w = true) : far (w :: ws) (s :: ss) ≤ far ws ss := by
  rw [far_cons, if_pos h]; omega
theorem far_least {ws ss : List Wd} {n : Nat} (h : Scr ws ss n) : far ws ss ≤ n := by
  induction h with
  | nil => exact Nat.le_refl _
  | keep hf _ ih => exact Nat.le_trans (far_keep hf) ih
  | turn _ ih => exact Nat.le_trans (far_turn ..) (Nat.succ_le_succ ih)
  | drop _ ih => exact Nat.le_trans (far_drop ..) (Nat.succ_le_succ ih)
  | put _ ih => exact Nat.le_trans (far_put ..) (Nat.succ_le_succ ih)
theorem scr_zero {ws ss : List Wd} : Scr ws ss 0 ↔ fitL ss ws = true := by
  constructor
  · intro h
    generalize hn : 0 = n at h
    induction h with
    | nil => rfl
    | keep hf _ ih => simp [fitL, hf, ih hn]
    | turn _ _ => cases hn
    | drop _ _ => cases hn
    | put _ _ => cases hn
  · intro h
    induction ss generalizing ws with
    | nil =>
      cases ws with
      | nil => exact .nil
      | cons w ws => simp [fitL] at h
    | cons s ss ih =>
      cases ws with
      | nil => simp [fitL] at h
      | cons w ws =>
        simp only [fitL, Bool.and_eq_true] at h
        exact .keep h.1 (ih h.2)
theorem far_zero {ws ss : List Wd} : far ws ss = 0 ↔ fitL ss ws = true := by
  rw [← scr_zero]
  constructor
  · intro h; rw [← h]; exact scr_far ws ss
  · intro h; have := far_least h; omega
end Go.Px

namespace Go.Px
theorem minN_le : ∀ {l : List Nat} {a : Nat}, a ∈ l → minN l ≤ a
  | [b], a, h => by simp at h; subst h; exact Nat.le_refl _
  | b :: c :: l, a, h => by
    simp only [minN]
    rcases List.mem_cons.1 h with rfl | h
    · exact Nat.min_le_left ..
    · exact Nat.le_trans (Nat.min_le_right ..) (minN_le h)
theorem minN_mem : ∀ {l : List Nat}, l ≠ [] → minN l ∈ l
  | [b], _ => by simp [minN]
  | b :: c :: l, _ => by
    simp only [minN]
    have ih := minN_mem (l := c :: l) (by simp)
    rcases Nat.le_total b (minN (c :: l)) with h | h
    · rw [Nat.min_eq_left h]; simp
    · rw [Nat.min_eq_right h]; exact List.mem_cons_of_mem _ ih
  | [], h => absurd rfl h
end Go.Px

namespace Go.Px
/-- A letter is of a form just if it needs no corrections. -/
theorem mends_zero {ps : List Part} (h : ∀ p ∈ ps, PartV p) (l : List Wd) : mendsF ps l = 0 ↔ waysF ps l ≠ [] := by
  have hne : (cnts (roomsL ps)).map (fun m => far l (shapeF ps m)) ≠ [] := by
    intro e
    exact form_cnts_ne h (List.map_eq_nil_iff.1 e)
  unfold mendsF waysF
  constructor
  · intro h0
    have hm := minN_mem hne
    rw [h0] at hm
    obtain ⟨m, hm1, hm2⟩ := List.mem_map.1 hm
    exact List.ne_nil_of_mem (List.mem_filter.2 ⟨hm1, far_zero.1 hm2⟩)
  · intro hw
    obtain ⟨m, hm⟩ := List.exists_mem_of_ne_nil _ hw
    obtain ⟨h1, h2⟩ := List.mem_filter.1 hm
    have := minN_le (l := (cnts (roomsL ps)).map fun m => far l (shapeF ps m)) (a := far l (shapeF ps m)) (List.mem_map.2 ⟨m, h1, rfl⟩)
    rw [far_zero.2 h2] at this
    omega
theorem mends_is {ps : List Part} (h : ∀ p ∈ ps, PartV p) (l : List Wd) : ∃ m ∈ cnts (roomsL ps), mendsF ps l = far l (shapeF ps m) := by
  have hne : (cnts (roomsL ps)).map (fun m => far l (shapeF ps m)) ≠ [] := by
    intro e
    exact form_cnts_ne h (List.map_eq_nil_iff.1 e)
  obtain ⟨m, h1, h2⟩ := List.mem_map.1 (minN_mem hne)
  exact ⟨m, h1, h2.symm⟩
end Go.Px

namespace Go.Px
open Go.Proofs
section
variable {s : Shelf} (V : ShelfV s) {n : Nat} {f : Form} (hf : s.forms[n]? = some f)
include V hf
theorem formI_zero : formI s n = 0 := by
  have hlt := (List.getElem?_eq_some_iff.1 hf).1
  unfold formI
  rw [if_pos (shelf_iff.2 V), if_neg (by simp [beyondB]; omega)]
theorem partsOf_eq : partsOf s n = f.parts := by
  have _h := V
  unfold partsOf
  rw [Int.toNat_natCast, hf]
theorem form_v : FormV f := (V.forms f (List.mem_of_getElem? hf)).2
theorem ofL_has (l : List Wd) (i : Nat) {g : Form} (hg : s.forms[i]? = some g) : ((i : Int) ∈ ofL s.forms l) ↔ waysF g.parts l ≠ [] := by
  have _h := And.intro V hf
  unfold ofL
  simp only [List.mem_map, List.mem_filter, List.mem_range, decide_eq_true_eq]
  constructor
  · rintro ⟨j, ⟨h1, h2⟩, e⟩
    have : j = i := by omega
    subst this
    rw [hg] at h2
    exact h2
  · intro h
    exact ⟨i, ⟨(List.getElem?_eq_some_iff.1 hg).1, by rw [hg]; exact h⟩, rfl⟩
end
end Go.Px

namespace Go.Px
open Go.Proofs
theorem inB_of (n lo hi : Int) : (decide (lo ≤ n) && decide (n ≤ hi)) = !beyondB lo hi [n] := by
  rw [← inB_not]; simp
theorem rWord_ev (l : Wd) : Ev Try.prog 123 [Str l] (B (wordB l)) := by
  refine Ev.intro fn123 ?_
  refine LWp.sx (gs := []) (hs := []) rfl trivial ?_
  have hin := in_ev l.length 1 8
  rw [inB_of] at hin
  refine LWp.seq (LWp.seq ?_)
  refine LWp.x (gs := []) (hs := [.ret (B (!beyondB 1 8 [(l.length : Int)]))]) rfl ⟨hin, trivial⟩ ?_
  have hwe := wordB_eq l
  have hb8 : beyondB 1 8 [(l.length : Int)] = false → l.length ≤ 8 := fun h => by simp [beyondB] at h; omega
  generalize beyondB 1 8 [(l.length : Int)] = bb at hwe hb8
  refine LWp.ite rfl (fun h => ?_) (fun h => LWp.skip ?_)
  · have h : bb = true := by simpa using h
    refine LWp.sx (gs := []) (hs := []) rfl trivial ?_
    refine LWp.ret (retT (.inr rfl) (.one (.tmp ?_ rfl)))
    rw [hwe, h]; rfl
  · have h : bb = false := by simpa using h
    have hl8 := hb8 h
    rw [h, Bool.not_false, Bool.true_and] at hwe
    refine LWp.seq (LWp.seq ?_)
    refine LWp.x (gs := []) (hs := []) rfl trivial ?_
    refine LWp.blockT (fun _ : Unit => l.all (fun c => lowB c.toNat) = true) (fun _ => el []) (fun _ => []) (fun _ => []) ?_ ?_
    · refine LWp.loopN (fun k : Nat => k ≤ l.length ∧ l.all (fun c => lowB c.toNat) = (l.drop k).all (fun c => lowB c.toNat)) (fun k => el [(0, Str l), (3, I k)]) (fun _ => []) (fun _ => []) (fun k => l.length - k) 0 ⟨by omega, rfl⟩
        (Ent.el ⟨rfl, rfl, trivial⟩) ?_
      rintro k ⟨hk, hi⟩
      refine LWp.seq (LWp.seq ?_)
      refine LWp.x (gs := []) (hs := []) rfl trivial ?_
      refine LWp.ite rfl (fun hc => ?_) (fun hc => ?_)
      · have hc : k < l.length := by simpa [ByteArray.size] using hc
        obtain ⟨c, hcc⟩ := ex_get hc
        rw [drop_cons hcc, List.all_cons] at hi
        refine LWp.skip ?_
        refine LWp.blockX (fun _ : Unit => lowB c.toNat = true) (fun _ => el [(0, Str l), (3, I k)]) (fun _ => []) (fun _ => []) ?_ ?_
        · have hby : (⟨l.toArray⟩ : ByteArray).data.toList[((k : Nat) : Int).toNat]? = some c := by simpa using hcc
          refine LWp.seq ?_
          by_cases h1 : (c.toNat : Int) < 97
          · have g1 : decide ((c.toNat : Int) < 97) = true := decide_eq_true h1
            refine LWp.x (gs := [(18, true)]) (hs := [.byte c]) rfl (by (repeat' (with_reducible apply And.intro)); (all_goals try first | (with_reducible exact trivial) | (with_reducible rfl) | (with_reducible assumption) | ((with_reducible apply isB); first | exact rfl | exact beq_self_eq_true _)); exact (by omega)) ?_
            refine LWp.ite (b := true) rfl (fun _ => ?_) (fun h => by cases h)
            refine LWp.sx (gs := []) (hs := []) rfl trivial ?_
            refine LWp.ret (retT (.inr rfl) (.one (.tmp ?_ rfl)))
            have : lowB c.toNat = false := by simp [lowB]; omega
            rw [hwe, hi, this]; rfl
          · have g1 : decide ((c.toNat : Int) < 97) = false := decide_eq_false h1
            refine LWp.x (gs := [(18, false)]) (hs := [.byte c, .byte c]) rfl (by (repeat' (with_reducible apply And.intro)); (all_goals try first | (with_reducible exact trivial) | (with_reducible rfl) | (with_reducible assumption) | ((with_reducible apply isB); first | exact rfl | exact beq_self_eq_true _)); exact (by omega); exact (by omega)) ?_
            refine LWp.ite rfl (fun h2 => ?_) (fun h2 => LWp.skip ?_)
            · refine LWp.sx (gs := []) (hs := []) rfl trivial ?_
              refine LWp.ret (retT (.inr rfl) (.one (.tmp ?_ rfl)))
              have : lowB c.toNat = false := by simp at h2; simp [lowB]; omega
              rw [hwe, hi, this]; rfl
            · refine ⟨(), ?_, Ent.el ⟨rfl, rfl, trivial⟩⟩
              simp at h2; simp [lowB]; omega
        · intro _ hl
          refine LWp.x (gs := []) (hs := []) rfl ⟨by omega, trivial⟩ ?_
          exact ⟨k + 1, ⟨by omega, by rw [hi, hl, Bool.true_and]⟩, by omega, Ent.el ⟨rfl, rfl, trivial⟩⟩
      · have hc : ¬ k < l.length := by simpa [ByteArray.size] using hc
        refine LWp.exit ⟨(), ?_, Ent.el trivial⟩
        rw [hi, drop_nil hc]; rfl
    · intro _ hl
      refine LWp.sx (gs := []) (hs := []) rfl trivial ?_
      refine LWp.ret (retT (.inr rfl) (.one (.tmp ?_ rfl)))
      rw [hwe, hl]
      rfl
theorem rwords_ev (l : List Wd) : Ev Try.prog 95 [strs l] (B (wordsB l)) := by
  refine Ev.intro fn95 ?_
  refine LWp.slLen 0 rfl fun hll => ?_
  simp only [List.length_map] at hll
  refine LWp.sx (gs := []) (hs := []) rfl trivial ?_
  refine LWp.sx (gs := []) (hs := []) rfl trivial ?_
  refine LWp.seq (LWp.seq ?_)
  refine LWp.x (gs := []) (hs := []) rfl trivial ?_
  refine LWp.blockT (fun _ : Unit => True) (fun _ => el [(3, B (wordsB l))]) (fun _ => []) (fun _ => []) ?_ ?_
  · refine LWp.loopN (X := Nat × Bool) (fun x => x.1 ≤ l.length ∧ wordsB l = (x.2 && wordsB (l.drop x.1))) (fun x => el [(0, strs l), (3, B x.2), (4, I x.1)]) (fun _ => []) (fun _ => []) (fun x => l.length - x.1) (0, true) ⟨by simp, by simp⟩
      (Ent.el ⟨rfl, rfl, rfl, trivial⟩) ?_
    rintro ⟨k, f⟩ ⟨hk, hi⟩
    simp only at hk hi ⊢
    refine LWp.seq (LWp.seq ?_)
    refine LWp.x (gs := []) (hs := []) rfl trivial ?_
    refine LWp.ite rfl (fun hc => ?_) (fun hc => ?_)
    · simp only [List.length_map, decide_eq_true_eq, Int.ofNat_lt] at hc
      obtain ⟨s, hs⟩ := ex_get hc
      rw [drop_cons hs] at hi
      have hi : wordsB l = ((f && wordB s) && wordsB (l.drop (k + 1))) := by rw [hi, Bool.and_assoc]; rfl
      refine LWp.skip ?_
      refine LWp.blockX (fun _ : Unit => True) (fun _ => el [(0, strs l), (3, B (f && wordB s)), (4, I k)]) (fun _ => []) (fun _ => []) ?_ ?_
      · cases f with
        | false =>
          refine LWp.x (gs := [(12, false)]) (hs := []) rfl (by (repeat' (with_reducible apply And.intro)); (all_goals try first | (with_reducible exact trivial) | (with_reducible rfl) | (with_reducible assumption) | ((with_reducible apply isB); first | exact rfl | exact beq_self_eq_true _))) ?_
          exact ⟨(), trivial, Ent.el ⟨rfl, rfl, rfl, trivial⟩⟩
        | true =>
          refine LWp.x (gs := [(12, true)]) (hs := [.cells [Str s], .ret (B (wordB s))]) rfl (by (repeat' (with_reducible apply And.intro)); (all_goals try first | (with_reducible exact trivial) | (with_reducible rfl) | (with_reducible assumption) | ((with_reducible apply isB); first | exact rfl | exact beq_self_eq_true _)); exact (by omega); exact (by simp [hs]); exact rWord_ev s) ?_
          exact ⟨(), trivial, Ent.el ⟨rfl, rfl, rfl, trivial⟩⟩
      · intro _ _
        refine LWp.x (gs := []) (hs := []) rfl ⟨by omega, trivial⟩ ?_
        exact ⟨(k + 1, f && wordB s), ⟨by simp only; omega, hi⟩, by simp only; omega, Ent.el ⟨rfl, rfl, rfl, trivial⟩⟩
    · simp only [List.length_map, decide_eq_false_iff_not, Int.ofNat_lt] at hc
      refine LWp.exit ⟨(), trivial, Ent.el ⟨?_, trivial⟩⟩
      rw [hi, drop_nil hc]
      show B _ = B _
      simp [wordsB]
  · intro _ _
    refine LWp.sx (gs := []) (hs := []) rfl trivial ?_
    refine LWp.ret (retT (.inr rfl) (.one (.tmp ?_ rfl)))
    rfl
theorem rLetter_ev (l : List Wd) : Ev Try.prog 48 [strs l] (I (letterE l)) := by
  refine Ev.intro fn48 ?_
  refine LWp.sx (gs := []) (hs := []) rfl trivial ?_
  refine LWp.seq (LWp.seq ?_)
  refine LWp.x (gs := []) (hs := []) rfl trivial ?_
  refine LWp.ite rfl (fun h => ?_) (fun h => LWp.skip ?_)
  · have h : 15 < l.length := by simp at h; omega
    refine LWp.sx (gs := []) (hs := []) rfl trivial ?_
    refine LWp.ret (retT (.inr rfl) (.one (.tmp ?_ rfl)))
    show I _ = I _
    unfold letterE
    rw [if_pos h]
  · have h : ¬ 15 < l.length := by simp at h; omega
    refine LWp.seq (LWp.seq ?_)
    refine LWp.x (gs := []) (hs := [.ret (B (wordsB l))]) rfl ⟨rwords_ev l, trivial⟩ ?_
    refine LWp.ite rfl (fun hw => ?_) (fun hw => LWp.skip ?_)
    · have hw : wordsB l = false := by simpa using hw
      refine LWp.sx (gs := []) (hs := []) rfl trivial ?_
      refine LWp.ret (retT (.inr rfl) (.one (.tmp ?_ rfl)))
      show I _ = I _
      unfold letterE
      rw [if_neg h, if_neg (by simp [hw])]
    · have hw : wordsB l = true := by simpa using hw
      refine LWp.sx (gs := []) (hs := []) rfl trivial ?_
      refine LWp.ret (retT (.inr rfl) (.one (.tmp ?_ rfl)))
      show I _ = I _
      unfold letterE
      rw [if_neg h, if_pos hw]
theorem roomy_ev (p : Part) : Ev Try.prog 55 [.agg p.enc] (B p.roomy) := by
  refine Ev.intro fn55 ?_
  refine LWp.sx (gs := []) (hs := [.ice]) rfl ⟨⟨rfl, rfl⟩, trivial⟩ ?_
  refine LWp.sx (gs := []) (hs := []) rfl trivial ?_
  refine LWp.ret (retT (.inr rfl) (.one (.tmp ?_ rfl)))
  show B _ = B _
  congr 2
  unfold Part.roomy
  rw [Bool.eq_iff_iff]
  simp
end Go.Px

namespace Go.Px
open Go.Proofs
theorem rpart_ev (p : Part) (hw : p.wf) : Ev Try.prog 63 [.agg p.enc] (I (partE p)) := by
  have hlo := wf_i64 hw.lo0 hw.lo1
  have hhi := wf_i64 hw.hi0 hw.hi1
  have h00 := wf_i64 (n := 0) (by decide) (by decide)
  have hln : (p.words.map fun s => [Str s]).length = p.words.length := List.length_map _
  refine Ev.intro fn63 ?_
  unfold partE
  refine LWp.sx (gs := []) (hs := [.ice]) rfl ⟨⟨rfl, rfl⟩, trivial⟩ ?_
  refine LWp.seq (LWp.seq ?_)
  refine LWp.x (gs := []) (hs := []) rfl trivial ?_
  refine LWp.ite rfl (fun h => ?_) (fun h => LWp.skip ?_)
  · have h : 3 < p.words.length := by simp at h; omega
    rw [if_pos h]
    refine LWp.sx (gs := []) (hs := []) rfl trivial ?_
    refine LWp.ret (retT (.inr rfl) (.one (.tmp ?_ rfl)))
    rfl
  have h : ¬ 3 < p.words.length := by simp at h; omega
  rw [if_neg h]
  refine LWp.seq (LWp.seq ?_)
  refine LWp.x (gs := []) (hs := [.ret (B (wordsB p.words))]) rfl ⟨rwords_ev _, trivial⟩ ?_
  refine LWp.ite rfl (fun hws => ?_) (fun hws => LWp.skip ?_)
  · have hws : wordsB p.words = false := by simpa using hws
    rw [if_neg (by simp [hws])]
    refine LWp.sx (gs := []) (hs := []) rfl trivial ?_
    refine LWp.ret (retT (.inr rfl) (.one (.tmp ?_ rfl)))
    rfl
  have hws : wordsB p.words = true := by simpa using hws
  rw [if_pos hws]
  refine LWp.seq (LWp.seq ?_)
  refine LWp.x (gs := []) (hs := [.ret (B p.roomy)]) rfl ⟨roomy_ev p, trivial⟩ ?_
  refine LWp.ite rfl (fun hr => ?_) (fun hr => LWp.skip ?_)
  · have hr : p.words ≠ [] := by simpa [Part.roomy] using hr
    rw [if_pos hr]
    refine LWp.seq (LWp.seq ?_)
    refine LWp.x (gs := []) (hs := [.op (B (!decide (p.lo = 0 ∧ p.hi = 0)))]) rfl (by (repeat' (with_reducible apply And.intro)); (all_goals try first | (with_reducible exact trivial) | (with_reducible rfl) | (with_reducible assumption) | ((with_reducible apply isB); first | exact rfl | exact beq_self_eq_true _)); exact op_span (neg := true) hlo hhi h00 h00 rfl rfl) ?_
    refine LWp.ite rfl (fun h0 => ?_) (fun h0 => LWp.skip ?_)
    · have h0 : ¬ (p.lo = 0 ∧ p.hi = 0) := by intro e; simp [e.1, e.2] at h0
      rw [if_neg h0]
      refine LWp.sx (gs := []) (hs := []) rfl trivial ?_
      refine LWp.ret (retT (.inr rfl) (.one (.tmp ?_ rfl)))
      rfl
    · have h0 : p.lo = 0 ∧ p.hi = 0 := by simpa using h0
      rw [if_pos h0]
      refine LWp.sx (gs := []) (hs := []) rfl trivial ?_
      refine LWp.ret (retT (.inr rfl) (.one (.tmp ?_ rfl)))
      rfl
  have hr : ¬ p.words ≠ [] := by
    have : p.roomy = true := by simpa using hr
    simpa [Part.roomy] using this
  rw [if_neg hr]
  have e1 := in_ev p.lo 0 3
  have e2 := in_ev p.hi 1 3
  have hb : (beyondB 0 3 [p.lo, p.hi] || decide (p.hi = 0)) = (!(decide (0 ≤ p.lo) && decide (p.lo ≤ 3)) || !(decide (1 ≤ p.hi) && decide (p.hi ≤ 3))) := by
    rw [Bool.eq_iff_iff]; simp [beyondB]; omega
  rw [hb]
  generalize (decide (0 ≤ p.lo) && decide (p.lo ≤ 3)) = b1 at e1
  generalize (decide (1 ≤ p.hi) && decide (p.hi ≤ 3)) = b2 at e2
  refine LWp.seq (LWp.seq ?_)
  refine LWp.cutT (fun _ : Unit => True) (fun _ => el [(1, .pi p.enc), (29, B (!b1 || !b2))]) (fun _ => []) (fun _ => []) ?_ (fun _ _ => ?_)
  · cases b1 with
    | true =>
      refine LWp.x (gs := [(23, false)]) (hs := [.ret (B true), .ret (B b2)]) rfl (by (repeat' (with_reducible apply And.intro)); (all_goals try first | (with_reducible exact trivial) | (with_reducible rfl) | (with_reducible assumption) | ((with_reducible apply isB); first | exact rfl | exact beq_self_eq_true _)); exact e1; exact e2) ?_
      exact ⟨(), trivial, Ent.el ⟨rfl, rfl, trivial⟩⟩
    | false =>
      refine LWp.x (gs := [(23, true)]) (hs := [.ret (B false)]) rfl (by (repeat' (with_reducible apply And.intro)); (all_goals try first | (with_reducible exact trivial) | (with_reducible rfl) | (with_reducible assumption) | ((with_reducible apply isB); first | exact rfl | exact beq_self_eq_true _)); exact e1) ?_
      exact ⟨(), trivial, Ent.el ⟨rfl, rfl, trivial⟩⟩
  refine LWp.ite rfl (fun hq => ?_) (fun hq => LWp.skip ?_)
  · rw [if_pos hq]
    refine LWp.sx (gs := []) (hs := []) rfl trivial ?_
    refine LWp.ret (retT (.inr rfl) (.one (.tmp ?_ rfl)))
    rfl
  rw [if_neg (by simp [hq])]
  refine LWp.seq (LWp.seq ?_)
  refine LWp.x (gs := []) (hs := []) rfl trivial ?_
  refine LWp.ite rfl (fun h => ?_) (fun h => LWp.skip ?_)
  · have h : p.hi < p.lo := by simpa using h
    rw [if_pos h]
    refine LWp.sx (gs := []) (hs := []) rfl trivial ?_
    refine LWp.ret (retT (.inr rfl) (.one (.tmp ?_ rfl)))
    rfl
  · have h : ¬ p.hi < p.lo := by simpa using h
    rw [if_neg h]
    refine LWp.sx (gs := []) (hs := []) rfl trivial ?_
    refine LWp.ret (retT (.inr rfl) (.one (.tmp ?_ rfl)))
    rfl
end Go.Px

namespace Go.Px
open Go.Proofs
theorem rcheck_ev (s : Shelf) (hw : s.wf) : Ev Try.prog 17 [.agg s.enc] (.tup [I (checkS s).1, I (checkS s).2.1, I (checkS s).2.2]) := by
  refine Ev.intro fn17 ?_
  have hfl : (s.forms.map Form.enc).length = s.forms.length := List.length_map _
  have res : ∀ {env : Env} {H : Heap} {p q r : Int}, checkS s = (p, q, r) → env 2 = I p → env 3 = I q → env 4 = I r → retP Try.prog [.tmp 2, .tmp 3, .tmp 4] (.tup [I (checkS s).1, I (checkS s).2.1, I (checkS s).2.2]) .ret env H [] := by
    intro env H p q r h h2 h3 h4
    rw [h]
    exact retT (.inr rfl) (.many (by decide) ⟨.tmp h2 rfl, .tmp h3 rfl, .tmp h4 rfl, trivial⟩)
  refine LWp.sx (gs := []) (hs := [.ice]) rfl ⟨⟨rfl, rfl⟩, trivial⟩ ?_
  refine LWp.seq (LWp.seq ?_)
  refine LWp.x (gs := []) (hs := [.ret (B (decide (8 ≤ s.w) && decide (s.w ≤ 30)))]) rfl ⟨in_ev _ 8 30, trivial⟩ ?_
  refine LWp.ite rfl (fun hc => ?_) (fun hc => ?_)
  · rw [inB_not] at hc
    refine LWp.sx (gs := []) (hs := []) rfl trivial ?_
    exact LWp.ret (res (p := 1) (q := 0) (r := 7) (by simp only [checkS, hc, if_true]) rfl rfl rfl)
  rw [inB_not] at hc
  refine LWp.skip (LWp.seq (LWp.seq ?_))
  refine LWp.x (gs := []) (hs := []) rfl trivial ?_
  refine LWp.ite rfl (fun hd => ?_) (fun hd => ?_)
  · have hd : 4 < s.forms.length := by simp at hd; omega
    refine LWp.sx (gs := []) (hs := []) rfl trivial ?_
    exact LWp.ret (res (p := 2) (q := 0) (r := 3) (by simp only [checkS, hc, hd, if_true, if_false, Bool.false_eq_true]) rfl rfl rfl)
  have hd : ¬ 4 < s.forms.length := by simp at hd; omega
  refine LWp.skip ?_
  have hck : checkS s = if (failF (formE s.forms) s.forms.length 0).2 = 0 then (0, 0, 0) else (2, (failF (formE s.forms) s.forms.length 0).1, (failF (formE s.forms) s.forms.length 0).2) := by
    simp only [checkS, hc, hd, if_false, Bool.false_eq_true]
  refine LWp.sx (gs := []) (hs := []) rfl trivial ?_
  refine LWp.seq (LWp.seq ?_)
  refine LWp.x (gs := []) (hs := []) rfl trivial ?_
  refine LWp.blockT (fun _ : Unit => (failF (formE s.forms) s.forms.length 0).2 = 0) (fun _ => el []) (fun _ => []) (fun _ => []) ?_ ?_
  · refine LWp.loopN (fun k : Nat => k ≤ s.forms.length ∧ failF (formE s.forms) s.forms.length 0 = failF (formE s.forms) (s.forms.length - k) k) (fun k => el [(1, .pi s.enc), (5, .lin 9 1 (((s.forms.take k).map (·.name)).map fun s => [Str s])), (6, I k)]) (fun _ => []) (fun _ => []) (fun k => s.forms.length - k) 0 ⟨by omega, rfl⟩
      (Ent.trans (Ent.nilLin (t := 5) 9 1 rfl) (Ent.el ⟨rfl, rfl, rfl, trivial⟩)) ?_
    rintro k ⟨hk, hi⟩
    refine LWp.seq (LWp.seq ?_)
    refine LWp.x (gs := []) (hs := []) rfl trivial ?_
    refine LWp.ite rfl (fun he => ?_) (fun he => ?_)
    · simp only [List.length_map, decide_eq_true_eq, Int.ofNat_lt] at he
      obtain ⟨f, hf⟩ := ex_get he
      have hfw := hw.forms f (List.mem_of_getElem? hf)
      have hpl : (f.parts.map Part.enc).length = f.parts.length := List.length_map _
      rw [failF_step he] at hi
      have hfe : formE s.forms k = if freshE f.name ((s.forms.take k).map (·.name)) = 0 then (if 5 < f.parts.length then 3 else (failF (partsE f.parts) f.parts.length 0).2) else freshE f.name ((s.forms.take k).map (·.name)) := by
        simp only [formE, hf, freshE, List.any_map]
        by_cases g1 : nameB f.name = true
        · simp only [g1, if_true]
          have e : (s.forms.take k).any ((fun x => x == f.name) ∘ fun x => x.name) = (s.forms.take k).any (fun x => x.name == f.name) := rfl
          rw [e]
          by_cases g2 : (s.forms.take k).any (fun x => x.name == f.name) = true
          · simp [g2]
          · simp [g2]
        · simp [g1]
      refine LWp.skip ?_
      refine LWp.blockX (fun _ : Unit => formE s.forms k = 0) (fun _ => el [(1, .pi s.enc), (5, .lin 9 1 (((s.forms.take (k + 1)).map (·.name)).map fun s => [Str s])), (6, I k)]) (fun _ => []) (fun _ => []) ?_ ?_
      · generalize hnm : (s.forms.take k).map (·.name) = nm at hfe
        have hnl : nm.length ≤ 4 := by rw [← hnm]; simp; omega
        have hns : (s.forms.take (k + 1)).map (·.name) = nm ++ [f.name] := by
          rw [List.take_add_one, hf, List.map_append, hnm]; rfl
        rw [hns]
        refine LWp.sx (gs := []) (hs := [.cells f.enc, .lin]) rfl ⟨⟨by omega, by simp [hf]⟩, rfl, ⟨rfl, rfl, rfl, by decide⟩, trivial⟩ ?_
        refine LWp.ent (Ent.freezeLbox (t := 7) rfl) ?_
        refine LWp.peek 5 rfl (fun ad cap => ?_)
        refine LWp.sx (gs := []) (hs := [.retB [Str f.name, strs nm] (I (freshE f.name nm))]) rfl ⟨⟨fresh_ev f.name hfw.name nm, rfl, .refl _, .linV (u := 5) rfl rfl, trivial⟩, trivial⟩ ?_
        refine LWp.sx (gs := []) (hs := [.ice, .own 5]) rfl ⟨rfl, ⟨⟨rfl, rfl, rfl⟩, by simp [chunk]; omega, by simp [chunk]; omega⟩, trivial⟩ ?_
        generalize freshE f.name nm = e0 at hfe
        refine LWp.cutX (fun _ : Unit => True) (fun _ => el [(1, .pi s.enc), (5, .lin 9 1 ((nm ++ [f.name]).map fun s => [Str s])), (6, I k), (7, .pi f.enc), (8, I (if e0 = 0 then (if 5 < f.parts.length then 3 else 0) else e0))]) (fun _ => []) (fun _ => []) ?_ ?_
        · by_cases g : e0 = 0
          · subst g
            refine LWp.sx (gs := [(41, true)]) (hs := []) rfl (by simp) ?_
            refine LWp.ite rfl (fun h3 => ?_) (fun h3 => ?_)
            · have h3 : 5 < f.parts.length := by simp at h3; omega
              refine LWp.x (gs := []) (hs := []) rfl trivial ?_
              exact ⟨(), trivial, Ent.el ⟨rfl, by show AV.lin _ _ _ = _; rw [List.map_append]; rfl, rfl, rfl, by rw [if_pos rfl, if_pos h3]; rfl, trivial⟩⟩
            · have h3 : ¬ 5 < f.parts.length := by simp at h3; omega
              exact LWp.skip ⟨(), trivial, Ent.el ⟨rfl, by show AV.lin _ _ _ = _; rw [List.map_append]; rfl, rfl, rfl, by rw [if_pos rfl, if_neg h3]; rfl, trivial⟩⟩
          · have g1 : (e0 == 0) = false := by simpa using g
            refine LWp.sx (gs := [(41, false)]) (hs := []) rfl (by simp [g1]) ?_
            refine LWp.ite (b := false) rfl (fun h => by cases h) (fun _ => ?_)
            exact LWp.skip ⟨(), trivial, Ent.el ⟨rfl, by show AV.lin _ _ _ = _; rw [List.map_append]; rfl, rfl, rfl, by rw [if_neg g]; rfl, trivial⟩⟩
        intro _ _
        refine LWp.seq (LWp.seq ?_)
        refine LWp.x (gs := []) (hs := []) rfl trivial ?_
        refine LWp.blockT (fun _ : Unit => True) (fun _ => el [(1, .pi s.enc), (5, .lin 9 1 ((nm ++ [f.name]).map fun s => [Str s])), (6, I k), (7, .pi f.enc), (8, I (formE s.forms k))]) (fun _ => []) (fun _ => []) ?_ ?_
        · refine LWp.loopN (fun x : Nat × Int => x.1 ≤ f.parts.length ∧ (x.2 = 0 → f.parts.length ≤ 5) ∧ formE s.forms k = if x.2 = 0 then (failF (partsE f.parts) (f.parts.length - x.1) x.1).2 else x.2) (fun x => el [(1, .pi s.enc), (5, .lin 9 1 ((nm ++ [f.name]).map fun s => [Str s])), (6, I k), (7, .pi f.enc), (8, I x.2), (9, I x.1)]) (fun _ => []) (fun _ => []) (fun x => f.parts.length - x.1) (0, if e0 = 0 then (if 5 < f.parts.length then 3 else 0) else e0) ⟨by omega, ?_, ?_⟩
            (Ent.el ⟨rfl, rfl, rfl, rfl, rfl, rfl, trivial⟩) ?_
          · simp only
            by_cases g : e0 = 0
            · by_cases g3 : 5 < f.parts.length
              · simp [g, g3]
              · intro _; omega
            · simp [g]
          · show formE s.forms k = if (if e0 = 0 then (if 5 < f.parts.length then 3 else 0) else e0) = 0 then (failF (partsE f.parts) (f.parts.length - 0) 0).2 else (if e0 = 0 then (if 5 < f.parts.length then 3 else 0) else e0)
            rw [hfe]
            by_cases g : e0 = 0
            · by_cases g3 : 5 < f.parts.length
              · simp [g, g3]
              · simp [g, g3]
            · simp [g]
          rintro ⟨j, e⟩ ⟨hj, hf5, hji⟩
          simp only at hj hf5 hji
          by_cases hlt : j < f.parts.length
          · have g1 : decide ((j : Int) < ((f.parts.map Part.enc).length : Int)) = true := decide_eq_true (by rw [hpl]; omega)
            refine LWp.seq (LWp.seq ?_)
            refine LWp.x (gs := [(52, true)]) (hs := []) rfl (by (repeat' (with_reducible apply And.intro)); (all_goals try first | (with_reducible exact trivial) | (with_reducible rfl) | (with_reducible assumption) | ((with_reducible apply isB); first | exact rfl | exact beq_self_eq_true _))) ?_
            refine LWp.ite rfl (fun hz => ?_) (fun hz => ?_)
            · have hz : e = 0 := by simpa using hz
              subst hz
              rw [if_pos rfl] at hji
              have hf5 := hf5 rfl
              obtain ⟨p, hp⟩ := ex_get hlt
              have hpe : partsE f.parts j = partE p := by simp only [partsE, hp]
              have hpe2 := rpart_ev p (hfw.parts p (List.mem_of_getElem? hp))
              rw [failF_step hlt, hpe] at hji
              generalize partE p = e at hji hpe2
              refine LWp.skip (LWp.seq (LWp.block ?_))
              refine LWp.x (gs := []) (hs := [.cells p.enc, .ret (I e)]) rfl ⟨⟨by omega, by simp [hp]⟩, hpe2, trivial⟩ ?_
              refine LWp.x (gs := []) (hs := []) rfl ⟨by omega, trivial⟩ ?_
              refine ⟨(j + 1, e), ⟨by simp only; omega, fun _ => hf5, ?_⟩, by simp only; omega, Ent.el ⟨rfl, rfl, rfl, rfl, rfl, rfl, trivial⟩⟩
              simp only
              rw [hji]
              by_cases g : e = 0
              · rw [if_pos g, if_pos g]
              · rw [if_neg g, if_neg g]
            · have hz : ¬ e = 0 := by simpa using hz
              rw [if_neg hz] at hji
              exact LWp.exit ⟨(), trivial, Ent.el ⟨rfl, rfl, rfl, rfl, by rw [hji]; rfl, trivial⟩⟩
          · have g1 : decide ((j : Int) < ((f.parts.map Part.enc).length : Int)) = false := decide_eq_false (by rw [hpl]; omega)
            refine LWp.seq (LWp.seq ?_)
            refine LWp.x (gs := [(52, false)]) (hs := []) rfl (by (repeat' (with_reducible apply And.intro)); (all_goals try first | (with_reducible exact trivial) | (with_reducible rfl) | (with_reducible assumption) | ((with_reducible apply isB); first | exact rfl | exact beq_self_eq_true _))) ?_
            refine LWp.ite (b := false) rfl (fun h => by cases h) (fun _ => ?_)
            refine LWp.exit ⟨(), trivial, Ent.el ⟨rfl, rfl, rfl, rfl, ?_, trivial⟩⟩
            rw [hji]
            by_cases g : e = 0
            · rw [if_pos g, show f.parts.length - j = 0 by omega, g]; rfl
            · rw [if_neg g]; rfl
        intro _ _
        generalize formE s.forms k = e at hi
        refine LWp.seq ?_
        refine LWp.x (gs := []) (hs := []) rfl trivial ?_
        refine LWp.ite rfl (fun h4 => ?_) (fun h4 => ?_)
        · have h4 : e ≠ 0 := by simpa using h4
          rw [if_neg h4] at hi
          refine LWp.sx (gs := []) (hs := []) rfl trivial ?_
          exact LWp.ret (res (p := 2) (q := (k : Int)) (r := e) (by rw [hck, hi, if_neg h4]) rfl rfl rfl)
        · have h4 : e = 0 := by simpa using h4
          exact LWp.skip ⟨(), h4, Ent.el ⟨rfl, rfl, rfl, trivial⟩⟩
      · intro _ hz
        rw [if_pos hz] at hi
        refine LWp.x (gs := []) (hs := []) rfl ⟨by omega, trivial⟩ ?_
        exact ⟨k + 1, ⟨he, hi⟩, by omega, Ent.el ⟨rfl, rfl, rfl, trivial⟩⟩
    · simp only [List.length_map, decide_eq_false_iff_not, Int.ofNat_lt] at he
      refine LWp.exit ⟨(), ?_, Ent.el trivial⟩
      rw [hi, show s.forms.length - k = 0 by omega]; rfl
  · intro _ h0
    refine LWp.sx (gs := []) (hs := []) rfl trivial ?_
    exact LWp.ret (res (p := 0) (q := 0) (r := 0) (by rw [hck, if_pos h0]) rfl rfl rfl)
end Go.Px

namespace Go.Px
open Go.Proofs
theorem ub : Try.prog.underlying 4 = some .bool := by kernel_rfl
theorem valid_ev (s : Shelf) (hw : s.wf) : Ev Try.prog 43 [.agg s.enc] (B ((checkS s).2.2 == 0)) := by
  have e := rcheck_ev s hw
  generalize (checkS s).1 = p at e
  generalize (checkS s).2.1 = q at e
  generalize (checkS s).2.2 = r at e
  refine Ev.intro fn43 ?_
  refine LWp.sx (gs := []) (hs := [.ice]) rfl ⟨⟨rfl, rfl⟩, trivial⟩ ?_
  refine LWp.sx (gs := []) (hs := [.ret (.tup [I p, I q, I r])]) rfl ⟨e, trivial⟩ ?_
  refine LWp.sx (gs := []) (hs := []) rfl trivial ?_
  refine LWp.ret (retT (.inr rfl) (.one (.tmp ?_ rfl)))
  rfl
end Go.Px

namespace Go.Px
open Go.Proofs
def risingF (below : Int) : List Int → Int → Bool
  | [], _ => true
  | n :: l, last => decide (last < n) && decide (n < below) && risingF below l n
theorem rising_ev (l : List Int) (m : Int) : Ev Try.prog 54 [ints l, I m] (B (risingF m l (-1))) := by
  refine Ev.intro fn54 ?_
  refine LWp.slLen 0 rfl fun hll => ?_
  simp only [List.length_map] at hll
  refine LWp.sx (gs := []) (hs := []) rfl trivial ?_
  refine LWp.sx (gs := []) (hs := []) rfl trivial ?_
  refine LWp.seq (LWp.seq ?_)
  refine LWp.x (gs := []) (hs := []) rfl trivial ?_
  refine LWp.blockT (fun _ : Unit => risingF m l (-1) = true) (fun _ => el []) (fun _ => []) (fun _ => []) ?_ ?_
  · refine LWp.loopN (X := Nat × Int) (fun x => x.1 ≤ l.length ∧ risingF m l (-1) = risingF m (l.drop x.1) x.2) (fun x => el [(0, ints l), (1, I m), (5, I x.2), (6, I x.1)]) (fun _ => []) (fun _ => []) (fun x => l.length - x.1) (0, -1) ⟨by simp, rfl⟩
      (Ent.el ⟨rfl, rfl, rfl, rfl, trivial⟩) ?_
    rintro ⟨k, last⟩ ⟨hk, hi⟩
    simp only at hk hi ⊢
    refine LWp.seq (LWp.seq ?_)
    refine LWp.x (gs := []) (hs := []) rfl trivial ?_
    refine LWp.ite rfl (fun hc => ?_) (fun hc => ?_)
    · simp only [List.length_map, decide_eq_true_eq, Int.ofNat_lt] at hc
      obtain ⟨n, hn⟩ := ex_get hc
      rw [drop_cons hn, risingF] at hi
      refine LWp.skip (LWp.seq (LWp.block ?_))
      refine LWp.cutX (fun _ : Unit => last < n ∧ n < m) (fun _ => el [(0, ints l), (1, I m), (6, I k)]) (fun _ => []) (fun _ => []) ?_ ?_
      · have ret : (decide (last < n) && decide (n < m)) = false → ∀ env : Env, LWp Try.prog none 31 (.seq (.ops [⟨some 4, none, .mov (.const (.bool false))⟩]) .ret) (fun e env H D => e = .ret ∧ retP Try.prog [.tmp 4] (B (risingF m l (-1))) .ret env H D) env [] [] := by
          intro h env
          refine LWp.sx (gs := []) (hs := []) rfl trivial ?_
          refine LWp.ret ⟨rfl, retT (.inr rfl) (.one (.tmp ?_ rfl))⟩
          rw [hi, h]; rfl
        refine LWp.seq ?_
        by_cases h1 : n ≤ last
        · refine LWp.x (gs := [(19, true)]) (hs := [.cells [I n]]) rfl (by simp [hn, h1]) ?_
          refine LWp.ite (b := true) rfl (fun _ => ?_) (fun h => by cases h)
          refine LWp.mono (ret ?_ _) (by rintro e env H D ⟨rfl, h⟩; exact h)
          have : ¬ last < n := by omega
          simp [this]
        · refine LWp.x (gs := [(19, false)]) (hs := [.cells [I n], .cells [I n]]) rfl (by simp [h1, (List.getElem?_eq_some_iff.1 hn).2, hc]; try omega) ?_
          refine LWp.ite rfl (fun h2 => ?_) (fun h2 => ?_)
          · simp only [ge_iff_le, decide_eq_true_eq] at h2
            refine LWp.mono (ret ?_ _) (by rintro e env H D ⟨rfl, h⟩; exact h)
            have : ¬ n < m := by omega
            simp [this]
          · simp only [ge_iff_le, decide_eq_false_iff_not] at h2
            exact LWp.skip ⟨(), ⟨by omega, by omega⟩, Ent.el ⟨rfl, rfl, rfl, trivial⟩⟩
      rintro _ ⟨h1, h2⟩
      refine LWp.x (gs := []) (hs := [.cells [I n]]) rfl ⟨⟨by omega, by simp [hn]⟩, trivial⟩ ?_
      refine LWp.x (gs := []) (hs := []) rfl ⟨by omega, trivial⟩ ?_
      refine ⟨(k + 1, n), ⟨hc, ?_⟩, by simp only; omega, Ent.el ⟨rfl, rfl, rfl, rfl, trivial⟩⟩
      rw [hi, decide_eq_true h1, decide_eq_true h2]; rfl
    · simp only [List.length_map, decide_eq_false_iff_not, Int.ofNat_lt] at hc
      exact LWp.exit ⟨(), by rw [hi, drop_nil hc]; rfl, Ent.el trivial⟩
  · intro _ h
    refine LWp.sx (gs := []) (hs := []) rfl trivial ?_
    refine LWp.ret (retT (.inr rfl) (.one (.tmp ?_ rfl)))
    rw [h]; rfl
theorem rising_range (m : Int) : ∀ (n : Nat) (p : Nat → Bool) (k : Nat) (last : Int), last < k → ((k + n : Nat) : Int) ≤ m → risingF m (((List.range' k n).filter p).map fun (i : Nat) => (i : Int)) last = true
  | 0, p, k, last, _, _ => rfl
  | n + 1, p, k, last, h1, h2 => by
    rw [List.range'_succ, List.filter_cons]
    split
    · simp only [List.map_cons, risingF]
      rw [rising_range m n p (k + 1) k (by omega) (by omega), decide_eq_true h1, decide_eq_true (by omega)]; rfl
    · exact rising_range m n p (k + 1) last (by omega) (by omega)
theorem ofL_rising (fs : List Form) (l : List Wd) : risingF fs.length (ofL fs l) (-1) = true := by
  unfold ofL
  rw [List.range_eq_range']
  exact rising_range _ _ _ 0 (-1) (by omega) (by simp)
section
variable {s : Shelf} {l : List Wd}
def OkSL (s : Shelf) (l : List Wd) : Prop := (checkS s).2.2 = 0 ∧ s.forms ≠ [] ∧ letterE l = 0
theorem nearR_bad (h : ¬ OkSL s l) : ∃ r, r ≠ 0 ∧ nearestR s l = (0, 0, r) := by
  have hE : nearE s l ≠ 0 := by
    intro g
    unfold nearE thenE at g
    by_cases h0 : (checkS s).2.2 = 0
    · rw [if_pos h0] at g
      by_cases h1 : letterE l = 0
      · rw [if_pos h1] at g
        by_cases h2 : s.forms = []
        · rw [if_pos h2] at g; cases g
        · exact h ⟨h0, h2, h1⟩
      · rw [if_neg h1] at g; exact h1 g
    · rw [if_neg h0, if_neg h0] at g; exact h0 g
  exact ⟨nearE s l, hE, by unfold nearestR; rw [if_neg hE]⟩
theorem nearR_good (h : OkSL s l) : nearestR s l = ((((bestN (s.forms.map fun f => mendsF f.parts l)).1 : Nat) : Int), (((bestN (s.forms.map fun f => mendsF f.parts l)).2 : Nat) : Int), 0) := by
  have hE : nearE s l = 0 := by
    unfold nearE thenE
    rw [if_pos h.1, if_pos h.2.2, if_neg h.2.1]
  unfold nearestR
  rw [if_pos hE]
theorem ofR_good (h : (checkS s).2.2 = 0) (hl : letterE l = 0) : ofR s l = (ofL s.forms l, 0) := by
  unfold ofR thenE
  rw [if_pos h, if_pos hl]
theorem mendR_good {i : Nat} {f : Form} (h : (checkS s).2.2 = 0) (hl : letterE l = 0) (hf : s.forms[i]? = some f) : mendR s i l = (((mendsF f.parts l : Nat) : Int), 0) := by
  have V := shelf_iff.1 h
  unfold mendR thenE
  rw [formI_zero V hf, if_pos rfl, if_pos hl, partsOf_eq V hf]
theorem has_mends {i : Nat} {f : Form} (h : (checkS s).2.2 = 0) (hf : s.forms[i]? = some f) : (ofL s.forms l).any (· == (i : Int)) = ((mendsF f.parts l : Nat) == 0) := by
  have V := shelf_iff.1 h
  rw [Bool.eq_iff_iff, beq_iff_eq, mends_zero (form_v V hf).parts, ← ofL_has V hf l i hf, List.any_eq_true]
  constructor
  · rintro ⟨x, hx, e⟩
    rw [beq_iff_eq] at e
    subst e; exact hx
  · intro hx
    exact ⟨_, hx, by simp⟩
/-- A letter's corrections are few. -/
theorem mends_small {f : Form} (hv : FormV f) (h15 : l.length ≤ 15) : mendsF f.parts l ≤ 1000 := by
  obtain ⟨m, hm, e⟩ := mends_is hv.parts l
  have := far_le l (shapeF f.parts m)
  have := (shape_small hv hm).2.2
  omega
end
/-- Whether there are a shelf with forms, and a letter. -/
theorem ok_parts {c : Int} {n : Nat} {d : Int} (h : ¬ (c = 0 ∧ n ≠ 0 ∧ d = 0)) : ((c == 0) = false) ∨ ((c == 0) = true ∧ n = 0) ∨ ((c == 0) = true ∧ n ≠ 0 ∧ (d != 0) = true) := by
  by_cases h1 : c = 0
  · by_cases h2 : n = 0
    · exact .inr (.inl ⟨by rw [h1]; rfl, h2⟩)
    · exact .inr (.inr ⟨by rw [h1]; rfl, h2, by rw [bne_iff_ne]; exact fun h3 => h ⟨h1, h2, h3⟩⟩)
  · exact .inl (by rw [beq_eq_false_iff_ne]; exact h1)
set_option maxRecDepth 20000 in
set_option maxHeartbeats 2000000 in
theorem letterNearest_ev (s : Shelf) (hw : s.wf) (l : List Wd) : Ev Try.prog 14 [.agg s.enc, strs l] (B true) := by
  have hfl : (s.forms.map Form.enc).length = s.forms.length := List.length_map _
  have e1 := nearest_ev s hw l
  have ev := valid_ev s hw
  have el1 := rLetter_ev l
  refine Ev.intro fn14 ?_
  by_cases h : OkSL s l
  case neg =>
    obtain ⟨r, hr, e⟩ := nearR_bad h
    rw [e] at e1
    have hp := ok_parts (c := (checkS s).2.2) (n := s.forms.length) (d := letterE l) (fun g => h ⟨g.1, fun e => g.2.1 (by rw [e]; rfl), g.2.2⟩)
    generalize (checkS s).2.2 = c at ev hp
    generalize letterE l = d at el1 hp
    have g1 : (r != 0) = true := by rw [bne_iff_ne]; exact hr
    refine LWp.sx (gs := []) (hs := [.ice]) rfl ⟨⟨rfl, rfl⟩, trivial⟩ ?_
    refine LWp.sx (gs := []) (hs := [.ret (.tup [I 0, I 0, I r])]) rfl ⟨e1, trivial⟩ ?_
    refine LWp.seq (LWp.cutX (fun _ : Unit => True) (fun _ => el [(5, I 0), (6, I 0), (7, I r), (33, B true)]) (fun _ => []) (fun _ => []) ?_ ?_)
    · rcases hp with k0 | ⟨k0, k1⟩ | ⟨k0, k1, k2⟩
      · rw [k0] at ev
        refine LWp.x (gs := [(23, true), (29, true)]) (hs := [.ret (B false)]) rfl (by (repeat' (with_reducible apply And.intro)); (all_goals first | (with_reducible exact trivial) | (with_reducible rfl) | (with_reducible assumption) | ((with_reducible apply isB); first | exact rfl | exact beq_self_eq_true _) | omega | ((first | exact ev)))) ?_
        exact ⟨(), trivial, Ent.el ⟨rfl, rfl, rfl, rfl, trivial⟩⟩
      · rw [k0] at ev
        have k3 : (((s.forms.map Form.enc).length : Int) == 0) = true := by rw [beq_iff_eq]; omega
        refine LWp.x (gs := [(23, false), (29, true)]) (hs := [.ret (B true)]) rfl (by (repeat' (with_reducible apply And.intro)); (all_goals first | (with_reducible exact trivial) | (with_reducible rfl) | (with_reducible assumption) | ((with_reducible apply isB); first | exact rfl | exact beq_self_eq_true _) | omega | ((first | exact ev)))) ?_
        exact ⟨(), trivial, Ent.el ⟨rfl, rfl, rfl, rfl, trivial⟩⟩
      · rw [k0] at ev
        have k3 : (((s.forms.map Form.enc).length : Int) == 0) = false := by rw [beq_eq_false_iff_ne]; omega
        refine LWp.x (gs := [(23, false), (29, false)]) (hs := [.ret (B true), .ret (I d)]) rfl (by (repeat' (with_reducible apply And.intro)); (all_goals first | (with_reducible exact trivial) | (with_reducible rfl) | (with_reducible assumption) | ((with_reducible apply isB); first | exact rfl | exact beq_self_eq_true _) | omega | ((first | exact ev | exact el1)))) ?_
        exact ⟨(), trivial, Ent.el ⟨rfl, rfl, rfl, by show B _ = B _; exact congrArg B k2, trivial⟩⟩
    intro _ _
    refine LWp.ite (b := true) rfl (fun _ => ?_) (fun h => by cases h)
    refine LWp.sx (gs := [(36, true), (40, true), (44, true)]) (hs := [.ret (B true)]) rfl (by (repeat' (with_reducible apply And.intro)); (all_goals first | (with_reducible exact trivial) | (with_reducible rfl) | (with_reducible assumption) | ((with_reducible apply isB); first | exact rfl | exact beq_self_eq_true _) | omega | ((first | exact awake_ev)))) ?_
    refine LWp.ret (retT (.inr rfl) (.one (.tmp ?_ rfl)))
    rfl
  have hOK := h
  obtain ⟨h0, hne, hl0⟩ := h
  have V := shelf_iff.1 h0
  have hf4 := V.f4
  have hpos := List.length_pos_iff.2 hne
  have h15 := (letter_zero.1 hl0).1
  have e2 := of_ev s hw l
  rw [ofR_good h0 hl0] at e2
  rw [nearR_good hOK] at e1
  rw [h0] at ev
  rw [hl0] at el1
  have hvl : (s.forms.map fun f => mendsF f.parts l).length = s.forms.length := List.length_map _
  obtain ⟨⟨m0, hb1, hb2⟩, hb3⟩ := bestN_spec (l := s.forms.map fun f => mendsF f.parts l) (by simpa using hne)
  have hb4 := (List.getElem?_eq_some_iff.1 hb1).1
  have hri := rising_ev (ofL s.forms l) s.forms.length
  rw [ofL_rising] at hri
  have hmm : ∀ (k : Nat) (f : Form), s.forms[k]? = some f → Ev Try.prog 37 [.agg s.enc, I k, strs l] (.tup [I (mendsF f.parts l : Nat), I 0]) ∧ Ev Try.prog 46 [ints (ofL s.forms l), I k] (B ((mendsF f.parts l : Nat) == 0)) ∧ (bestN (s.forms.map fun f => mendsF f.parts l)).2 ≤ mendsF f.parts l ∧ (k < (bestN (s.forms.map fun f => mendsF f.parts l)).1 → (bestN (s.forms.map fun f => mendsF f.parts l)).2 < mendsF f.parts l) ∧ (k = (bestN (s.forms.map fun f => mendsF f.parts l)).1 → mendsF f.parts l = (bestN (s.forms.map fun f => mendsF f.parts l)).2) := by
    intro k f hf
    have hv : (s.forms.map fun f => mendsF f.parts l)[k]? = some (mendsF f.parts l) := by rw [List.getElem?_map, hf]; rfl
    refine ⟨?_, ?_, (hb3 k _ hv).1, (hb3 k _ hv).2, ?_⟩
    · have := mend_ev s hw k l
      rw [mendR_good h0 hl0 hf] at this; exact this
    · have := has_ev (ofL s.forms l) k
      rw [has_mends h0 hf] at this; exact this
    · intro e
      rw [e, hb1] at hv
      rw [← hb2]
      exact (Option.some.inj hv).symm
  have hm0 : (bestN (s.forms.map fun f => mendsF f.parts l)).2 ≤ 1000 := by
    rw [← hb2]
    rw [List.getElem?_map, Option.map_eq_some_iff] at hb1
    obtain ⟨f, hf, e⟩ := hb1
    rw [← e]
    exact mends_small (form_v V hf) h15
  have hsm : ∀ (k : Nat) (f : Form), s.forms[k]? = some f → mendsF f.parts l ≤ 1000 := fun k f hf => mends_small (form_v V hf) h15
  rw [hvl] at hb4
  have hin := in_ev ((bestN (s.forms.map fun f => mendsF f.parts l)).1 : Nat) 0 ((s.forms.length : Int) - 1)
  generalize (bestN (s.forms.map fun f => mendsF f.parts l)).1 = n at e1 hmm hin hb4
  generalize (bestN (s.forms.map fun f => mendsF f.parts l)).2 = q at e1 hmm hm0
  have hin2 : (decide ((0 : Int) ≤ (n : Int)) && decide ((n : Int) ≤ (s.forms.length : Int) - 1)) = true := by simp; omega
  rw [hin2, ← hfl] at hin
  rw [← hfl] at hri
  generalize ofL s.forms l = O at e2 hri hmm
  refine LWp.sx (gs := []) (hs := [.ice]) rfl ⟨⟨rfl, rfl⟩, trivial⟩ ?_
  refine LWp.sx (gs := []) (hs := [.ret (.tup [I n, I q, I 0])]) rfl ⟨e1, trivial⟩ ?_
  refine LWp.seq (LWp.seq ?_)
  have k3 : (((s.forms.map Form.enc).length : Int) == 0) = false := by rw [beq_eq_false_iff_ne]; omega
  refine LWp.x (gs := [(23, false), (29, false)]) (hs := [.ret (B true), .ret (I 0)]) rfl (by (repeat' (with_reducible apply And.intro)); (all_goals first | (with_reducible exact trivial) | (with_reducible rfl) | (with_reducible assumption) | ((with_reducible apply isB); first | exact rfl | exact beq_self_eq_true _) | omega | ((first | exact ev | exact el1)))) ?_
  refine LWp.ite (b := false) rfl (fun h => by cases h) (fun _ => LWp.skip ?_)
  refine LWp.sx (gs := []) (hs := [.ret (.tup [ints O, I 0])]) rfl ⟨e2, trivial⟩ ?_
  refine LWp.seq (LWp.seq ?_)
  refine LWp.x (gs := [(55, false), (59, false), (68, false)]) (hs := [.ret (B true), .ret (B true)]) rfl (by (repeat' (with_reducible apply And.intro)); (all_goals first | (with_reducible exact trivial) | (with_reducible rfl) | (with_reducible assumption) | ((with_reducible apply isB); first | exact rfl | exact beq_self_eq_true _) | omega | ((first | exact hin | exact hri)))) ?_
  refine LWp.ite (b := false) rfl (fun h => by cases h) (fun _ => LWp.skip ?_)
  refine LWp.seq (LWp.seq ?_)
  refine LWp.x (gs := []) (hs := []) rfl trivial ?_
  refine LWp.blockT (fun _ : Unit => True) (fun _ => el []) (fun _ => []) (fun _ => []) ?_ ?_
  · refine LWp.loopN (fun k : Nat => k ≤ s.forms.length) (fun k => el [(1, strs l), (2, .pi s.enc), (5, I n), (6, I q), (8, ints O), (10, I k)]) (fun _ => []) (fun _ => []) (fun k => s.forms.length - k) 0 (Nat.zero_le _)
      (Ent.el ⟨rfl, rfl, rfl, rfl, rfl, rfl, trivial⟩) ?_
    intro k hk
    refine LWp.seq (LWp.seq ?_)
    refine LWp.x (gs := []) (hs := []) rfl trivial ?_
    refine LWp.ite rfl (fun he => ?_) (fun he => ?_)
    · simp only [List.length_map, decide_eq_true_eq, Int.ofNat_lt] at he
      obtain ⟨f, hf⟩ := ex_get he
      obtain ⟨m1, m2, m3, m4, m5⟩ := hmm k f hf
      have m6 := hsm k f hf
      generalize mendsF f.parts l = m at m1 m2 m3 m4 m5 m6
      have hz : ((m : Int) == 0) = ((m : Nat) == 0) := by rw [Bool.eq_iff_iff, beq_iff_eq, beq_iff_eq]; omega
      generalize ((m : Nat) == 0) = z at m2 hz
      refine LWp.skip ?_
      refine LWp.blockX (fun _ : Unit => True) (fun _ => el [(1, strs l), (2, .pi s.enc), (5, I n), (6, I q), (8, ints O), (10, I k)]) (fun _ => []) (fun _ => []) ?_ ?_
      · refine LWp.sx (gs := []) (hs := [.ret (.tup [I m, I 0])]) rfl ⟨m1, trivial⟩ ?_
        refine LWp.cutX (fun _ : Unit => True) (fun _ => el [(1, strs l), (2, .pi s.enc), (5, I n), (6, I q), (8, ints O), (10, I k), (124, B false)]) (fun _ => []) (fun _ => []) ?_ ?_
        · have c1 : decide ((m : Int) < (q : Int)) = false := decide_eq_false (by omega)
          have fin : ((m : Int) == 0) != z → False := by rw [hz]; simp
          rcases Nat.lt_trichotomy k n with g | g | g
          · have c2 : decide ((k : Int) < (n : Int)) = true := decide_eq_true (by omega)
            have c3 : ((m : Int) == (q : Int)) = false := by rw [beq_eq_false_iff_ne]; have := m4 g; omega
            have c4 : ((k : Int) == (n : Int)) = false := by rw [beq_eq_false_iff_ne]; omega
            refine LWp.x (gs := [(92, false), (97, false), (101, true), (107, false), (111, false), (117, false)]) (hs := [.ret (B z)]) rfl (by (repeat' (with_reducible apply And.intro)); (all_goals first | (with_reducible exact trivial) | (with_reducible rfl) | (with_reducible assumption) | ((with_reducible apply isB); first | exact rfl | exact beq_self_eq_true _) | omega | ((first | exact m2 | exact ub)))) ?_
            exact ⟨(), trivial, Ent.el ⟨rfl, rfl, rfl, rfl, rfl, rfl, by show B _ = B _; rw [hz]; simp, trivial⟩⟩
          · have c2 : decide ((k : Int) < (n : Int)) = false := decide_eq_false (by omega)
            have c3 : ((m : Int) != (q : Int)) = false := by rw [m5 g]; simp
            have c4 : ((k : Int) == (n : Int)) = true := by rw [beq_iff_eq]; omega
            refine LWp.x (gs := [(92, false), (97, false), (101, false), (107, false), (111, true), (117, false)]) (hs := [.ret (B z)]) rfl (by (repeat' (with_reducible apply And.intro)); (all_goals first | (with_reducible exact trivial) | (with_reducible rfl) | (with_reducible assumption) | ((with_reducible apply isB); first | exact rfl | exact beq_self_eq_true _) | omega | ((first | exact m2 | exact ub)))) ?_
            exact ⟨(), trivial, Ent.el ⟨rfl, rfl, rfl, rfl, rfl, rfl, by show B _ = B _; rw [hz]; simp, trivial⟩⟩
          · have c2 : decide ((k : Int) < (n : Int)) = false := decide_eq_false (by omega)
            have c4 : ((k : Int) == (n : Int)) = false := by rw [beq_eq_false_iff_ne]; omega
            refine LWp.x (gs := [(92, false), (97, false), (101, false), (107, false), (111, false), (117, false)]) (hs := [.ret (B z)]) rfl (by (repeat' (with_reducible apply And.intro)); (all_goals first | (with_reducible exact trivial) | (with_reducible rfl) | (with_reducible assumption) | ((with_reducible apply isB); first | exact rfl | exact beq_self_eq_true _) | omega | ((first | exact m2 | exact ub)))) ?_
            exact ⟨(), trivial, Ent.el ⟨rfl, rfl, rfl, rfl, rfl, rfl, by show B _ = B _; rw [hz]; simp, trivial⟩⟩
        intro _ _
        refine LWp.ite (b := false) rfl (fun h => by cases h) (fun _ => LWp.skip ?_)
        exact ⟨(), trivial, Ent.el ⟨rfl, rfl, rfl, rfl, rfl, rfl, trivial⟩⟩
      intro _ _
      refine LWp.x (gs := []) (hs := []) rfl ⟨by omega, trivial⟩ ?_
      exact ⟨k + 1, by omega, by omega, Ent.el ⟨rfl, rfl, rfl, rfl, rfl, rfl, trivial⟩⟩
    · exact LWp.exit ⟨(), trivial, Ent.el trivial⟩
  intro _ _
  refine LWp.sx (gs := []) (hs := [.ret (B true)]) rfl ⟨awake_ev, trivial⟩ ?_
  refine LWp.ret (retT (.inr rfl) (.one (.tmp ?_ rfl)))
  rfl
end Go.Px

