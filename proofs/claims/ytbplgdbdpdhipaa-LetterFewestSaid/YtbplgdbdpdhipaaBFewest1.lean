/- Part 1 of the proof of the statement LetterFewest (contracts of the functions that it alone wants). No conditions. -/
import Derived.Test.YtbplgdbdpdhipaaA7
import Derived.Test.YtbplgdbdpdhipaaChecked
import Derived.KernelRfl
namespace Go.Px
open Go.Proofs
set_option maxRecDepth 100000
def L11 : LCode :=
 (.seq
 (.ops [⟨(some 6), none, .mov (.const (.bool false))⟩])
 (.seq
 (.ops [⟨(some 20), none, .mov (tm 0)⟩,
 ⟨(some 21), none, .mov (tm 1)⟩,
 ⟨(some 22), none, .call 32 [(tm 20), (tm 21)] 48⟩,
 ⟨(some 19), none, .mov (tm 22)⟩,
 ⟨(some 23), none, .extract (tm 19) 0⟩,
 ⟨(some 24), none, .extract (tm 19) 1⟩,
 ⟨(some 25), none, .extract (tm 19) 2⟩,
 ⟨(some 7), none, .mov (tm 23)⟩,
 ⟨(some 8), none, .mov (tm 24)⟩,
 ⟨(some 9), none, .mov (tm 25)⟩])
 (.seq
 (.seq
 (.ops [⟨(some 26), none, .mov (tm 0)⟩,
 ⟨(some 27), none, .call 48 [(tm 26)] 26⟩,
 ⟨(some 28), none, .bin .neq 26 (tm 27) (kc 0)⟩,
 ⟨(some 29), none, .mov (tm 28)⟩,
 ⟨(some 30), some (29, false), .mov (tm 1)⟩,
 ⟨(some 31), some (29, false), .call 48 [(tm 30)] 26⟩,
 ⟨(some 32), some (29, false), .bin .neq 26 (tm 31) (kc 0)⟩,
 ⟨(some 33), none, .pick (tm 29) (.const (.bool true)) (tm 32)⟩])
 (.ite (tm 33)
 (.seq
 (.ops [⟨(some 34), none, .mov (tm 9)⟩,
 ⟨(some 35), none, .bin .neq 26 (tm 34) (kc 0)⟩,
 ⟨(some 36), none, .mov (tm 35)⟩,
 ⟨(some 37), some (36, true), .mov (tm 8)⟩,
 ⟨(some 38), some (36, true), .bin .eql 3 (tm 37) (kc 0)⟩,
 ⟨(some 39), none, .pick (tm 36) (tm 38) (.const (.bool false))⟩,
 ⟨(some 40), none, .mov (tm 39)⟩,
 ⟨(some 41), some (40, true), .mov (tm 7)⟩,
 ⟨(some 42), some (40, true), .len false 47 3 (tm 41)⟩,
 ⟨(some 43), some (40, true), .bin .eql 3 (tm 42) (kc 0)⟩,
 ⟨(some 44), none, .pick (tm 40) (tm 43) (.const (.bool false))⟩,
 ⟨(some 45), none, .mov (tm 44)⟩,
 ⟨(some 46), some (45, true), .call 21 [] 4⟩,
 ⟨(some 47), none, .pick (tm 45) (tm 46) (.const (.bool false))⟩,
 ⟨(some 6), none, .mov (tm 47)⟩])
 .ret)
 .skip))
 (.seq
 (.ops [⟨(some 49), none, .mov (tm 0)⟩,
 ⟨(some 50), none, .mov (tm 7)⟩,
 ⟨(some 51), none, .call 35 [(tm 49), (tm 50)] 30⟩,
 ⟨(some 48), none, .mov (tm 51)⟩,
 ⟨(some 52), none, .extract (tm 48) 0⟩,
 ⟨(some 53), none, .extract (tm 48) 1⟩,
 ⟨(some 10), none, .mov (tm 52)⟩,
 ⟨(some 11), none, .mov (tm 53)⟩])
 (.seq
 (.seq
 (.ops [⟨(some 54), none, .mov (tm 9)⟩,
 ⟨(some 55), none, .bin .neq 26 (tm 54) (kc 0)⟩,
 ⟨(some 56), none, .mov (tm 55)⟩,
 ⟨(some 57), some (56, false), .mov (tm 11)⟩,
 ⟨(some 58), some (56, false), .bin .neq 26 (tm 57) (kc 0)⟩,
 ⟨(some 59), none, .pick (tm 56) (.const (.bool true)) (tm 58)⟩,
 ⟨(some 60), none, .mov (tm 59)⟩,
 ⟨(some 61), some (60, false), .mov (tm 10)⟩,
 ⟨(some 62), some (60, false), .mov (tm 1)⟩,
 ⟨(some 63), some (60, false), .call 20 [(tm 61), (tm 62)] 4⟩,
 ⟨(some 64), some (60, false), .un .not (tm 63)⟩,
 ⟨(some 65), none, .pick (tm 60) (.const (.bool true)) (tm 64)⟩,
 ⟨(some 66), none, .mov (tm 65)⟩,
 ⟨(some 67), some (66, false), .mov (tm 7)⟩,
 ⟨(some 68), some (66, false), .call 50 [(tm 67)] 3⟩,
 ⟨(some 69), some (66, false), .mov (tm 8)⟩,
 ⟨(some 70), some (66, false), .bin .neq 3 (tm 68) (tm 69)⟩,
 ⟨(some 71), none, .pick (tm 66) (.const (.bool true)) (tm 70)⟩])
 (.ite (tm 71)
 (.seq
 (.ops [⟨(some 6), none, .mov (.const (.bool false))⟩])
 .ret)
 .skip))
 (.seq
 (.ops [⟨(some 73), none, .mov (tm 0)⟩,
 ⟨(some 74), none, .mov (tm 2)⟩,
 ⟨(some 75), none, .call 51 [(tm 73), (tm 74)] 70⟩,
 ⟨(some 72), none, .mov (tm 75)⟩,
 ⟨(some 76), none, .extract (tm 72) 0⟩,
 ⟨(some 77), none, .extract (tm 72) 1⟩,
 ⟨(some 12), none, .mov (tm 76)⟩,
 ⟨(some 13), none, .mov (tm 77)⟩])
 (.seq
 (.ops [⟨(some 79), none, .mov (tm 0)⟩,
 ⟨(some 80), none, .mov (tm 12)⟩,
 ⟨(some 81), none, .call 35 [(tm 79), (tm 80)] 30⟩,
 ⟨(some 78), none, .mov (tm 81)⟩,
 ⟨(some 82), none, .extract (tm 78) 0⟩,
 ⟨(some 83), none, .extract (tm 78) 1⟩,
 ⟨(some 14), none, .mov (tm 82)⟩,
 ⟨(some 15), none, .mov (tm 83)⟩])
 (.seq
 (.ops [⟨(some 85), none, .mov (tm 0)⟩,
 ⟨(some 86), none, .mov (tm 13)⟩,
 ⟨(some 87), none, .call 32 [(tm 85), (tm 86)] 48⟩,
 ⟨(some 84), none, .mov (tm 87)⟩,
 ⟨(some 88), none, .extract (tm 84) 0⟩,
 ⟨(some 89), none, .extract (tm 84) 1⟩,
 ⟨(some 90), none, .extract (tm 84) 2⟩,
 ⟨(some 16), none, .mov (tm 88)⟩,
 ⟨(some 17), none, .mov (tm 89)⟩,
 ⟨(some 18), none, .mov (tm 90)⟩])
 (.seq
 (.ops [⟨(some 91), none, .mov (tm 15)⟩,
 ⟨(some 92), none, .bin .eql 26 (tm 91) (kc 0)⟩,
 ⟨(some 93), none, .mov (tm 92)⟩,
 ⟨(some 94), some (93, true), .mov (tm 18)⟩,
 ⟨(some 95), some (93, true), .bin .eql 26 (tm 94) (kc 0)⟩,
 ⟨(some 96), none, .pick (tm 93) (tm 95) (.const (.bool false))⟩,
 ⟨(some 97), none, .mov (tm 96)⟩,
 ⟨(some 98), some (97, true), .mov (tm 14)⟩,
 ⟨(some 99), some (97, true), .mov (tm 13)⟩,
 ⟨(some 100), some (97, true), .call 20 [(tm 98), (tm 99)] 4⟩,
 ⟨(some 101), none, .pick (tm 97) (tm 100) (.const (.bool false))⟩,
 ⟨(some 102), none, .mov (tm 101)⟩,
 ⟨(some 103), some (102, true), .mov (tm 17)⟩,
 ⟨(some 104), some (102, true), .mov (tm 12)⟩,
 ⟨(some 105), some (102, true), .call 50 [(tm 104)] 3⟩,
 ⟨(some 106), some (102, true), .bin .leq 3 (tm 103) (tm 105)⟩,
 ⟨(some 107), none, .pick (tm 102) (tm 106) (.const (.bool false))⟩,
 ⟨(some 108), none, .mov (tm 107)⟩,
 ⟨(some 109), some (108, true), .call 21 [] 4⟩,
 ⟨(some 110), none, .pick (tm 108) (tm 109) (.const (.bool false))⟩,
 ⟨(some 6), none, .mov (tm 110)⟩])
 .ret)))))))))
theorem fn11 : FnOK Try.prog 11 111 [.tmp 6] L11 := ⟨Try.f11, Try.func11, by kernel_rfl, Try.ntmps11, by rw [Try.results11], by kernel_rfl⟩
def L48 : LCode :=
 (.seq
 (.ops [⟨(some 2), none, .mov (kc 0)⟩])
 (.seq
 (.seq
 (.ops [⟨(some 3), none, .mov (tm 0)⟩,
 ⟨(some 4), none, .len false 29 3 (tm 3)⟩,
 ⟨(some 5), none, .bin .gtr 3 (tm 4) (kc 15)⟩])
 (.ite (tm 5)
 (.seq
 (.ops [⟨(some 2), none, .mov (kc 3)⟩])
 .ret)
 .skip))
 (.seq
 (.seq
 (.ops [⟨(some 6), none, .mov (tm 0)⟩,
 ⟨(some 7), none, .call 95 [(tm 6)] 4⟩,
 ⟨(some 8), none, .un .not (tm 7)⟩])
 (.ite (tm 8)
 (.seq
 (.ops [⟨(some 2), none, .mov (kc 6)⟩])
 .ret)
 .skip))
 (.seq
 (.ops [⟨(some 2), none, .mov (kc 0)⟩])
 .ret))))
theorem fn48 : FnOK Try.prog 48 9 [.tmp 2] L48 := ⟨Try.f48, Try.func48, by kernel_rfl, Try.ntmps48, by rw [Try.results48], by kernel_rfl⟩
def L50 : LCode :=
 (.seq
 (.ops [⟨(some 2), none, .mov (kc 0)⟩])
 (.seq
 (.ops [⟨(some 3), none, .mov (kc 0)⟩])
 (.seq
 (.seq
 (.ops [⟨(some 4), none, .mov (kc 0)⟩])
 (.block 0
 (.loop
 (.seq
 (.seq
 (.ops [⟨(some 5), none, .mov (tm 4)⟩,
 ⟨(some 6), none, .mov (tm 0)⟩,
 ⟨(some 7), none, .len false 47 3 (tm 6)⟩,
 ⟨(some 8), none, .bin .lss 3 (tm 5) (tm 7)⟩])
 (.ite (tm 8)
 .skip
 (.exit 0)))
 (.seq
 (.block 1
 (.seq
 (.ops [⟨(some 11), none, .mov (tm 0)⟩,
 ⟨(some 12), none, .mov (tm 4)⟩,
 ⟨(some 13), none, .iaddr 47 (tm 11) (tm 12) 2⟩,
 ⟨(some 14), none, .faddr 123 (tm 13) 0 0⟩,
 ⟨(some 15), none, .load 3 (tm 14) none⟩,
 ⟨(some 16), none, .bin .neq 3 (tm 15) (kc 0)⟩])
 (.ite (tm 16)
 (.ops [⟨(some 17), none, .mov (tm 3)⟩,
 ⟨(some 18), none, .bin .add 3 (tm 17) (kc 1)⟩,
 ⟨(some 3), none, .mov (tm 18)⟩])
 .skip)))
 (.ops [⟨(some 9), none, .mov (tm 4)⟩,
 ⟨(some 10), none, .bin .add 3 (tm 9) (kc 1)⟩,
 ⟨(some 4), none, .mov (tm 10)⟩]))))))
 (.seq
 (.ops [⟨(some 19), none, .mov (tm 3)⟩,
 ⟨(some 2), none, .mov (tm 19)⟩])
 .ret))))
theorem fn50 : FnOK Try.prog 50 20 [.tmp 2] L50 := ⟨Try.f50, Try.func50, by kernel_rfl, Try.ntmps50, by rw [Try.results50], by kernel_rfl⟩
def L51 : LCode :=
 (.seq
 (.ops [⟨(some 4), none, .mov (.const (.slice none 0 0))⟩,
 ⟨(some 5), none, .mov (.const (.slice none 0 0))⟩])
 (.seq
 (.ops [⟨(some 6), none, .mov (.const (.slice none 0 0))⟩])
 (.seq
 (.ops [⟨(some 7), none, .mov (.const (.slice none 0 0))⟩])
 (.seq
 (.ops [⟨(some 8), none, .mov (kc 0)⟩])
 (.seq
 (.seq
 (.ops [⟨(some 9), none, .mov (kc 0)⟩])
 (.block 0
 (.loop
 (.seq
 (.seq
 (.ops [⟨(some 14), none, .mov (tm 8)⟩,
 ⟨(some 15), none, .mov (tm 0)⟩,
 ⟨(some 16), none, .len false 29 3 (tm 15)⟩,
 ⟨(some 17), none, .bin .lss 3 (tm 14) (tm 16)⟩])
 (.ite (tm 17)
 .skip
 (.exit 0)))
 (.seq
 (.block 1
 (.seq
 (.ops [⟨(some 20), none, .mov (tm 1)⟩,
 ⟨(some 21), none, .mov (tm 9)⟩,
 ⟨(some 22), none, .bin .mul 3 (kc 2) (tm 21)⟩,
 ⟨(some 23), none, .call 93 [(tm 20), (tm 22)] 3⟩,
 ⟨(some 10), none, .mov (tm 23)⟩])
 (.seq
 (.ops [⟨(some 24), none, .call 94 [] 29⟩,
 ⟨(some 25), none, .mov (tm 1)⟩,
 ⟨(some 26), none, .mov (tm 9)⟩,
 ⟨(some 27), none, .bin .mul 3 (kc 2) (tm 26)⟩,
 ⟨(some 28), none, .bin .add 3 (tm 27) (kc 1)⟩,
 ⟨(some 29), none, .call 93 [(tm 25), (tm 28)] 3⟩,
 ⟨(some 30), none, .call 94 [] 29⟩,
 ⟨(some 31), none, .len false 29 3 (tm 30)⟩,
 ⟨(some 32), none, .bin .rem 3 (tm 29) (tm 31)⟩,
 ⟨(some 33), none, .iaddr 29 (tm 24) (tm 32) 1⟩,
 ⟨(some 34), none, .load 9 (tm 33) none⟩,
 ⟨(some 11), none, .mov (tm 34)⟩])
 (.seq
 (.ops [⟨(some 35), none, .mov (tm 10)⟩,
 ⟨(some 36), none, .bin .rem 3 (tm 35) (kc 4)⟩,
 ⟨(some 12), none, .mov (tm 36)⟩])
 (.seq
 (.seq
 (.ops [⟨(some 37), none, .mov (tm 12)⟩,
 ⟨(some 38), none, .bin .eql 3 (tm 37) (kc 1)⟩,
 ⟨(some 39), none, .mov (tm 38)⟩,
 ⟨(some 40), some (39, true), .mov (tm 11)⟩,
 ⟨(some 41), some (39, true), .mov (tm 0)⟩,
 ⟨(some 42), some (39, true), .mov (tm 8)⟩,
 ⟨(some 43), some (39, true), .iaddr 29 (tm 41) (tm 42) 1⟩,
 ⟨(some 44), some (39, true), .load 9 (tm 43) none⟩,
 ⟨(some 45), some (39, true), .bin .eql 9 (tm 40) (tm 44)⟩,
 ⟨(some 46), none, .pick (tm 39) (tm 45) (.const (.bool false))⟩,
 ⟨(some 47), none, .mov (tm 46)⟩,
 ⟨(some 48), some (47, false), .mov (tm 12)⟩,
 ⟨(some 49), some (47, false), .bin .eql 3 (tm 48) (kc 3)⟩,
 ⟨(some 50), some (47, false), .mov (tm 49)⟩,
 ⟨(some 51), some (50, true), .mov (tm 9)⟩,
 ⟨(some 52), some (50, true), .mov (tm 0)⟩,
 ⟨(some 53), some (50, true), .len false 29 3 (tm 52)⟩,
 ⟨(some 54), some (50, true), .bin .mul 3 (kc 2) (tm 53)⟩,
 ⟨(some 55), some (50, true), .bin .geq 3 (tm 51) (tm 54)⟩,
 ⟨(some 56), some (50, true), .mov (tm 55)⟩,
 ⟨(some 57), some (56, false), .mov (tm 7)⟩,
 ⟨(some 58), some (56, false), .len false 29 3 (tm 57)⟩,
 ⟨(some 59), some (56, false), .mov (tm 0)⟩,
 ⟨(some 60), some (56, false), .len false 29 3 (tm 59)⟩,
 ⟨(some 61), some (56, false), .bin .add 3 (tm 58) (tm 60)⟩,
 ⟨(some 62), some (56, false), .mov (tm 8)⟩,
 ⟨(some 63), some (56, false), .bin .sub 3 (tm 61) (tm 62)⟩,
 ⟨(some 64), some (56, false), .bin .geq 3 (tm 63) (kc 15)⟩,
 ⟨(some 65), some (50, true), .pick (tm 56) (.const (.bool true)) (tm 64)⟩,
 ⟨(some 66), some (47, false), .pick (tm 50) (tm 65) (.const (.bool false))⟩,
 ⟨(some 67), none, .pick (tm 47) (.const (.bool true)) (tm 66)⟩])
 (.ite (tm 67)
 (.ops [⟨(some 12), none, .mov (kc 0)⟩])
 .skip))
 (.seq
 (.ops [⟨(some 68), none, .mov (tm 12)⟩,
 ⟨(some 69), none, .build 123 [(0, (tm 68))] [(.int .i64 0), (.string ⟨#[]⟩)] [(0, 1, (tm 68))]⟩,
 ⟨(some 13), none, .alloc 123 [(.int .i64 0), (.string ⟨#[]⟩)]⟩,
 ⟨none, none, .store 123 (tm 13) (tm 69) 2⟩])
 (.seq
 (.seq
 (.ops [⟨(some 70), none, .mov (tm 12)⟩,
 ⟨(some 71), none, .bin .eql 3 (tm 70) (kc 1)⟩,
 ⟨(some 72), none, .mov (tm 71)⟩,
 ⟨(some 73), some (72, false), .mov (tm 12)⟩,
 ⟨(some 74), some (72, false), .bin .eql 3 (tm 73) (kc 3)⟩,
 ⟨(some 75), none, .pick (tm 72) (.const (.bool true)) (tm 74)⟩])
 (.ite (tm 75)
 (.seq
 (.ops [⟨(some 76), none, .mov (tm 11)⟩,
 ⟨(some 77), none, .faddr 123 (tm 13) 1 1⟩,
 ⟨none, none, .store 9 (tm 77) (tm 76) 1⟩])
 (.ops [⟨(some 78), none, .mov (tm 7)⟩,
 ⟨(some 79), none, .mov (tm 11)⟩,
 ⟨(some 80), none, .bslice 29 1 [(0, (tm 79))] 9 1 [(.string ⟨#[]⟩)]⟩,
 ⟨(some 81), none, .append 29 29 (tm 78) (tm 80) 9 1 16 [(.string ⟨#[]⟩)]⟩,
 ⟨(some 7), none, .mov (tm 81)⟩]))
 .skip))
 (.seq
 (.seq
 (.ops [⟨(some 82), none, .mov (tm 12)⟩,
 ⟨(some 83), none, .bin .eql 3 (tm 82) (kc 0)⟩])
 (.ite (tm 83)
 (.ops [⟨(some 84), none, .mov (tm 7)⟩,
 ⟨(some 85), none, .mov (tm 0)⟩,
 ⟨(some 86), none, .mov (tm 8)⟩,
 ⟨(some 87), none, .iaddr 29 (tm 85) (tm 86) 1⟩,
 ⟨(some 88), none, .load 9 (tm 87) none⟩,
 ⟨(some 89), none, .bslice 29 1 [(0, (tm 88))] 9 1 [(.string ⟨#[]⟩)]⟩,
 ⟨(some 90), none, .append 29 29 (tm 84) (tm 89) 9 1 16 [(.string ⟨#[]⟩)]⟩,
 ⟨(some 7), none, .mov (tm 90)⟩])
 .skip))
 (.seq
 (.seq
 (.ops [⟨(some 91), none, .mov (tm 12)⟩,
 ⟨(some 92), none, .bin .neq 3 (tm 91) (kc 3)⟩])
 (.ite (tm 92)
 (.ops [⟨(some 93), none, .mov (tm 8)⟩,
 ⟨(some 94), none, .bin .add 3 (tm 93) (kc 1)⟩,
 ⟨(some 8), none, .mov (tm 94)⟩])
 .skip))
 (.dops [(⟨(some 95), none, .bslice 47 0 [] 123 2 [(.int .i64 0), (.string ⟨#[]⟩)]⟩, []),
 (⟨(some 96), none, .mov (tm 6)⟩, []),
 (⟨(some 97), none, .append 47 47 (tm 95) (tm 96) 123 2 24 [(.int .i64 0), (.string ⟨#[]⟩)]⟩, [0, 1]),
 (⟨(some 98), none, .load 123 (tm 13) (some 2)⟩, []),
 (⟨(some 99), none, .bslice 47 1 [(0, (tm 98))] 123 2 [(.int .i64 0), (.string ⟨#[]⟩)]⟩, [3]),
 (⟨(some 100), none, .append 47 47 (tm 97) (tm 99) 123 2 24 [(.int .i64 0), (.string ⟨#[]⟩)]⟩, [2, 4, 2]),
 (⟨(some 6), none, .mov (tm 100)⟩, [5, 5, 0, 1, 2, 3, 4, 5])]))))))))))
 (.ops [⟨(some 18), none, .mov (tm 9)⟩,
 ⟨(some 19), none, .bin .add 3 (tm 18) (kc 1)⟩,
 ⟨(some 9), none, .mov (tm 19)⟩]))))))
 (.seq
 (.ops [⟨(some 101), none, .mov (tm 6)⟩,
 ⟨(some 102), none, .mov (tm 7)⟩,
 ⟨(some 4), none, .mov (tm 101)⟩,
 ⟨(some 5), none, .mov (tm 102)⟩])
 .ret))))))
theorem fn51 : FnOK Try.prog 51 103 [.tmp 4, .tmp 5] L51 := ⟨Try.f51, Try.func51, by kernel_rfl, Try.ntmps51, by rw [Try.results51], by kernel_rfl⟩
def L53 : LCode :=
 (.seq
 (.ops [⟨(some 6), none, .mov (.const (.bool false))⟩])
 (.seq
 (.ops [⟨(some 7), none, .mov (tm 0)⟩,
 ⟨(some 8), none, .mov (tm 1)⟩,
 ⟨(some 9), none, .bin .geq 3 (tm 7) (tm 8)⟩,
 ⟨(some 10), none, .mov (tm 9)⟩,
 ⟨(some 11), some (10, true), .mov (tm 0)⟩,
 ⟨(some 12), some (10, true), .mov (tm 2)⟩,
 ⟨(some 13), some (10, true), .bin .leq 3 (tm 11) (tm 12)⟩,
 ⟨(some 14), none, .pick (tm 10) (tm 13) (.const (.bool false))⟩,
 ⟨(some 6), none, .mov (tm 14)⟩])
 .ret))
theorem fn53 : FnOK Try.prog 53 15 [.tmp 6] L53 := ⟨Try.f53, Try.func53, by kernel_rfl, Try.ntmps53, by rw [Try.results53], by kernel_rfl⟩
def L93 : LCode :=
 (.seq
 (.ops [⟨(some 4), none, .mov (kc 0)⟩])
 (.seq
 (.seq
 (.ops [⟨(some 5), none, .mov (tm 0)⟩,
 ⟨(some 6), none, .len false 58 3 (tm 5)⟩,
 ⟨(some 7), none, .bin .eql 3 (tm 6) (kc 0)⟩])
 (.ite (tm 7)
 (.seq
 (.ops [⟨(some 4), none, .mov (kc 0)⟩])
 .ret)
 .skip))
 (.seq
 (.ops [⟨(some 8), none, .mov (tm 0)⟩,
 ⟨(some 9), none, .mov (tm 1)⟩,
 ⟨(some 10), none, .mov (tm 0)⟩,
 ⟨(some 11), none, .len false 58 3 (tm 10)⟩,
 ⟨(some 12), none, .bin .rem 3 (tm 9) (tm 11)⟩,
 ⟨(some 13), none, .iaddr 58 (tm 8) (tm 12) 1⟩,
 ⟨(some 14), none, .load 5 (tm 13) none⟩,
 ⟨(some 15), none, .toInt .i64 5 3 (tm 14)⟩,
 ⟨(some 4), none, .mov (tm 15)⟩])
 .ret)))
theorem fn93 : FnOK Try.prog 93 16 [.tmp 4] L93 := ⟨Try.f93, Try.func93, by kernel_rfl, Try.ntmps93, by rw [Try.results93], by kernel_rfl⟩
def L94 : LCode :=
 (.seq
 (.ops [⟨(some 0), none, .mov (.const (.slice none 0 0))⟩])
 (.seq
 (.ops [⟨(some 1), none, .bslice 29 8 [(0, (.const (.string ⟨#[97]⟩))), (1, (.const (.string ⟨#[105]⟩))), (2, (.const (.string ⟨#[97, 115, 107]⟩))), (3, (.const (.string ⟨#[116, 111]⟩))), (4, (.const (.string ⟨#[116, 104, 101]⟩))), (5, (.const (.string ⟨#[98]⟩))), (6, (.const (.string ⟨#[106, 117, 100, 103, 101]⟩))), (7, (.const (.string ⟨#[109, 101, 114, 99, 121]⟩)))] 9 1 [(.string ⟨#[]⟩)]⟩,
 ⟨(some 0), none, .mov (tm 1)⟩])
 .ret))
theorem fn94 : FnOK Try.prog 94 2 [.tmp 0] L94 := ⟨Try.f94, Try.func94, by kernel_rfl, Try.ntmps94, by rw [Try.results94], by kernel_rfl⟩
def L95 : LCode :=
 (.seq
 (.ops [⟨(some 2), none, .mov (.const (.bool false))⟩])
 (.seq
 (.ops [⟨(some 3), none, .mov (.const (.bool true))⟩])
 (.seq
 (.seq
 (.ops [⟨(some 4), none, .mov (kc 0)⟩])
 (.block 0
 (.loop
 (.seq
 (.seq
 (.ops [⟨(some 5), none, .mov (tm 4)⟩,
 ⟨(some 6), none, .mov (tm 0)⟩,
 ⟨(some 7), none, .len false 29 3 (tm 6)⟩,
 ⟨(some 8), none, .bin .lss 3 (tm 5) (tm 7)⟩])
 (.ite (tm 8)
 .skip
 (.exit 0)))
 (.seq
 (.block 1
 (.ops [⟨(some 11), none, .mov (tm 3)⟩,
 ⟨(some 12), none, .mov (tm 11)⟩,
 ⟨(some 13), some (12, true), .mov (tm 0)⟩,
 ⟨(some 14), some (12, true), .mov (tm 4)⟩,
 ⟨(some 15), some (12, true), .iaddr 29 (tm 13) (tm 14) 1⟩,
 ⟨(some 16), some (12, true), .load 9 (tm 15) none⟩,
 ⟨(some 17), some (12, true), .call 123 [(tm 16)] 4⟩,
 ⟨(some 18), none, .pick (tm 12) (tm 17) (.const (.bool false))⟩,
 ⟨(some 3), none, .mov (tm 18)⟩]))
 (.ops [⟨(some 9), none, .mov (tm 4)⟩,
 ⟨(some 10), none, .bin .add 3 (tm 9) (kc 1)⟩,
 ⟨(some 4), none, .mov (tm 10)⟩]))))))
 (.seq
 (.ops [⟨(some 19), none, .mov (tm 3)⟩,
 ⟨(some 2), none, .mov (tm 19)⟩])
 .ret))))
theorem fn95 : FnOK Try.prog 95 20 [.tmp 2] L95 := ⟨Try.f95, Try.func95, by kernel_rfl, Try.ntmps95, by rw [Try.results95], by kernel_rfl⟩
def L123 : LCode :=
 (.seq
 (.ops [⟨(some 2), none, .mov (.const (.bool false))⟩])
 (.seq
 (.seq
 (.ops [⟨(some 4), none, .mov (tm 0)⟩,
 ⟨(some 5), none, .len true 9 3 (tm 4)⟩,
 ⟨(some 6), none, .call 53 [(tm 5), (kc 1), (kc 8)] 4⟩,
 ⟨(some 7), none, .un .not (tm 6)⟩])
 (.ite (tm 7)
 (.seq
 (.ops [⟨(some 2), none, .mov (.const (.bool false))⟩])
 .ret)
 .skip))
 (.seq
 (.seq
 (.ops [⟨(some 3), none, .mov (kc 0)⟩])
 (.block 0
 (.loop
 (.seq
 (.seq
 (.ops [⟨(some 8), none, .mov (tm 3)⟩,
 ⟨(some 9), none, .mov (tm 0)⟩,
 ⟨(some 10), none, .len true 9 3 (tm 9)⟩,
 ⟨(some 11), none, .bin .lss 3 (tm 8) (tm 10)⟩])
 (.ite (tm 11)
 .skip
 (.exit 0)))
 (.seq
 (.block 1
 (.seq
 (.ops [⟨(some 14), none, .mov (tm 0)⟩,
 ⟨(some 15), none, .mov (tm 3)⟩,
 ⟨(some 16), none, .indexS 9 (tm 14) (tm 15)⟩,
 ⟨(some 17), none, .bin .lss 5 (tm 16) (.const (.int .u8 97))⟩,
 ⟨(some 18), none, .mov (tm 17)⟩,
 ⟨(some 19), some (18, false), .mov (tm 0)⟩,
 ⟨(some 20), some (18, false), .mov (tm 3)⟩,
 ⟨(some 21), some (18, false), .indexS 9 (tm 19) (tm 20)⟩,
 ⟨(some 22), some (18, false), .bin .gtr 5 (tm 21) (.const (.int .u8 122))⟩,
 ⟨(some 23), none, .pick (tm 18) (.const (.bool true)) (tm 22)⟩])
 (.ite (tm 23)
 (.seq
 (.ops [⟨(some 2), none, .mov (.const (.bool false))⟩])
 .ret)
 .skip)))
 (.ops [⟨(some 12), none, .mov (tm 3)⟩,
 ⟨(some 13), none, .bin .add 3 (tm 12) (kc 1)⟩,
 ⟨(some 3), none, .mov (tm 13)⟩]))))))
 (.seq
 (.ops [⟨(some 2), none, .mov (.const (.bool true))⟩])
 .ret))))
theorem fn123 : FnOK Try.prog 123 24 [.tmp 2] L123 := ⟨Try.f123, Try.func123, by kernel_rfl, Try.ntmps123, by rw [Try.results123], by kernel_rfl⟩
end Go.Px

namespace Go.Px
open Go.Proofs
theorem in_ev (n lo hi : Int) : Ev Try.prog 53 [I n, I lo, I hi] (B (decide (lo ≤ n) && decide (n ≤ hi))) := by
  refine Ev.intro fn53 ?_
  refine LWp.sx (gs := []) (hs := []) rfl trivial ?_
  by_cases h : lo ≤ n
  · refine LWp.sx (gs := [(10, true)]) (hs := []) rfl (by simp [h]) ?_
    refine LWp.ret (retT (.inr rfl) (.one (.tmp ?_ rfl)))
    show B _ = B _
    simp [h]
  · refine LWp.sx (gs := [(10, false)]) (hs := []) rfl (by simp [h]) ?_
    refine LWp.ret (retT (.inr rfl) (.one (.tmp ?_ rfl)))
    show B _ = B _
    simp [h]
end Go.Px

namespace Go.Px
open Go.Proofs
theorem inB_not (n lo hi : Int) : (!(decide (lo ≤ n) && decide (n ≤ hi))) = beyondB lo hi [n] := by
  rw [Bool.eq_iff_iff]; simp [beyondB]
end Go.Px

namespace Go.Px
theorem far_put (ws : List Wd) (s : Wd) (ss : List Wd) : far ws (s :: ss) ≤ far ws ss + 1 := by
  cases ws with
  | nil => simp [far]
  | cons w ws => rw [far_cons]; split <;> omega
theorem far_turn (w : Wd) (ws : List Wd) (s : Wd) (ss : List Wd) : far (w :: ws) (s :: ss) ≤ far ws ss + 1 := by
  rw [far_cons]; split <;> omega
theorem far_keep {w : Wd} {ws : List Wd} {s : Wd} {ss : List Wd} (h : fitB s w = true) : far (w :: ws) (s :: ss) ≤ far ws ss := by
  rw [far_cons, if_pos h]; omega
theorem far_least {ws ss : List Wd} {n : Nat} (h : Scr ws ss n) : far ws ss ≤ n := by
  induction h with
  | nil => exact Nat.le_refl _
  | keep hf _ ih => exact Nat.le_trans (far_keep hf) ih
  | turn _ ih => exact Nat.le_trans (far_turn ..) (Nat.succ_le_succ ih)
  | drop _ ih => exact Nat.le_trans (far_drop ..) (Nat.succ_le_succ ih)
  | put _ ih => exact Nat.le_trans (far_put ..) (Nat.succ_le_succ ih)
theorem fit_eq {s w : Wd} (h : s ≠ []) : fitB s w = true ↔ s = w := by
  simp [fitB, h]
theorem fit_refl (w : Wd) : fitB w w = true := by simp [fitB]
end Go.Px

namespace Go.Px
def corr (ms : List Mark) : Nat := ms.countP fun m => decide (m.k ≠ 0)
theorem ap_scr {ms : List Mark} {ws out : List Wd} (h : Ap ms ws out) : Scr ws out (corr ms) := by
  induction h with
  | nil => exact .nil
  | @keep ms w ws out _ ih =>
    have e : corr (⟨0, []⟩ :: ms) = corr ms := by simp [corr]
    rw [e]; exact .keep (fit_refl w) ih
  | @turn ms w ws v out _ _ _ ih =>
    have e : corr (⟨1, v⟩ :: ms) = corr ms + 1 := by simp [corr]
    rw [e]; exact .turn ih
  | @drop ms w ws out _ ih =>
    have e : corr (⟨2, []⟩ :: ms) = corr ms + 1 := by simp [corr]
    rw [e]; exact .drop ih
  | @put ms ws v out _ _ ih =>
    have e : corr (⟨3, v⟩ :: ms) = corr ms + 1 := by simp [corr]
    rw [e]; exact .put ih
theorem ap_apply {ms : List Mark} {ws out : List Wd} (h : Ap ms ws out) : ∀ pre : List Wd, (pre ++ out).length ≤ 15 → applyG ms ws pre = (pre ++ out, 0) := by
  induction h with
  | nil =>
    intro pre hp
    rw [List.append_nil] at hp
    simp only [applyG, ne_eq, not_true_eq_false, if_false, List.append_nil]
    rw [if_neg (by omega)]
  | @keep ms w ws out _ ih =>
    intro pre hp
    have := ih (pre ++ [w]) (by simpa using hp)
    simp only [applyG]
    rw [if_pos (by simp [markE])]
    simp only [markO, markL]
    simpa using this
  | @turn ms w ws v out hv hne _ ih =>
    intro pre hp
    have := ih (pre ++ [v]) (by simpa using hp)
    simp only [applyG]
    rw [if_pos (by simp [markE, hv, hne])]
    simp only [markO, markL]
    simpa using this
  | @drop ms w ws out _ ih =>
    intro pre hp
    have := ih pre hp
    simp only [applyG]
    rw [if_pos (by simp [markE])]
    simp only [markO, markL]
    simpa using this
  | @put ms ws v out hv _ ih =>
    intro pre hp
    have := ih (pre ++ [v]) (by simpa using hp)
    simp only [applyG]
    rw [if_pos (by simp [markE, hv])]
    simp only [markO, markL]
    simpa using this
theorem ap_applyR {ms : List Mark} {ws out : List Wd} (h : Ap ms ws out) (hl : letterE ws = 0) (hm : ms.length ≤ 30) (ho : out.length ≤ 15) : applyR ws ms = (out, 0) := by
  unfold applyR
  rw [if_pos hl, if_neg (by omega)]
  simpa using ap_apply h [] (by simpa using ho)
theorem marks_ap : ∀ (f : Nat) (ws ss : List Wd), ws.length + ss.length ≤ f → wordsB ss = true → Ap (marksF f ws ss) ws ss ∧ corr (marksF f ws ss) = far ws ss ∧ (marksF f ws ss).length ≤ ws.length + ss.length
  | 0, [], [], _, _ => ⟨.nil, rfl, Nat.le_refl _⟩
  | 0, _ :: _, _, h, _ => by simp at h
  | 0, [], _ :: _, h, _ => by simp at h
  | f + 1, [], [], _, _ => ⟨.nil, rfl, Nat.zero_le _⟩
  | f + 1, [], s :: ss, h, hs => by
    simp only [wordsB, List.all_cons, Bool.and_eq_true] at hs
    obtain ⟨h1, h2, h3⟩ := marks_ap f [] ss (by simp at h ⊢; omega) hs.2
    have e : marksF (f + 1) [] (s :: ss) = ⟨3, s⟩ :: marksF f [] ss := by simp [marksF, kindF]
    rw [e]
    refine ⟨.put hs.1 h1, ?_, by simp at h3 ⊢; omega⟩
    have : corr (⟨3, s⟩ :: marksF f [] ss) = corr (marksF f [] ss) + 1 := by simp [corr]
    rw [this, h2]; simp [far]
  | f + 1, w :: ws, [], h, hs => by
    obtain ⟨h1, h2, h3⟩ := marks_ap f ws [] (by simp at h ⊢; omega) hs
    have e : marksF (f + 1) (w :: ws) [] = ⟨2, []⟩ :: marksF f ws [] := by simp [marksF, kindF]
    rw [e]
    refine ⟨.drop h1, ?_, by simp at h3 ⊢; omega⟩
    have : corr (⟨2, []⟩ :: marksF f ws []) = corr (marksF f ws []) + 1 := by simp [corr]
    rw [this, h2, far_nil, far_nil]; simp
  | f + 1, w :: ws, s :: ss, h, hs => by
    have hs0 := hs
    simp only [wordsB, List.all_cons, Bool.and_eq_true] at hs
    simp only [List.length_cons] at h
    have hne := word_ne hs.1
    obtain ⟨a1, a2, a3⟩ := marks_ap f ws ss (by omega) hs.2
    obtain ⟨b1, b2, b3⟩ := marks_ap f ws (s :: ss) (by simp; omega) hs0
    obtain ⟨c1, c2, c3⟩ := marks_ap f (w :: ws) ss (by simp; omega) hs.2
    have hk : kindF (w :: ws) (s :: ss) = if fitB s w = true then (if far ws ss ≤ 1 + far ws (s :: ss) ∧ far ws ss ≤ 1 + far (w :: ws) ss then 0 else if far ws (s :: ss) ≤ far (w :: ws) ss then 2 else 3)
      else (if far ws ss ≤ far ws (s :: ss) ∧ far ws ss ≤ far (w :: ws) ss then 1 else if far ws (s :: ss) ≤ far (w :: ws) ss then 2 else 3) := rfl
    simp only [marksF, List.tail_cons, List.headD_cons]
    rw [far_cons]
    simp only [List.length_cons] at b3 c3
    have e2 : corr (⟨2, []⟩ :: marksF f ws (s :: ss)) = corr (marksF f ws (s :: ss)) + 1 := by simp [corr]
    have e3 : corr (⟨3, s⟩ :: marksF f (w :: ws) ss) = corr (marksF f (w :: ws) ss) + 1 := by simp [corr]
    by_cases hf : fitB s w = true
    · have hsw : s = w := (fit_eq hne).1 hf
      rw [if_pos hf] at hk
      rw [if_pos hf]
      by_cases g1 : far ws ss ≤ 1 + far ws (s :: ss) ∧ far ws ss ≤ 1 + far (w :: ws) ss
      · rw [if_pos g1] at hk
        rw [hk]
        simp only [if_true]
        refine ⟨by rw [hsw]; exact .keep a1, ?_, by simp; omega⟩
        have e0 : corr (⟨0, []⟩ :: marksF f ws ss) = corr (marksF f ws ss) := by simp [corr]
        rw [e0, a2]; omega
      · rw [if_neg g1] at hk
        by_cases g2 : far ws (s :: ss) ≤ far (w :: ws) ss
        · rw [if_pos g2] at hk
          rw [hk]
          simp only [if_true, show ¬ (2 = 0) by decide, show ¬ (2 = 1) by decide, if_false]
          exact ⟨.drop b1, by rw [e2, b2]; omega, by simp; omega⟩
        · rw [if_neg g2] at hk
          rw [hk]
          simp only [if_true, show ¬ (3 = 0) by decide, show ¬ (3 = 1) by decide, show ¬ (3 = 2) by decide, if_false]
          exact ⟨.put hs.1 c1, by rw [e3, c2]; omega, by simp; omega⟩
    · have hsw : s ≠ w := fun e => hf ((fit_eq hne).2 e)
      rw [if_neg hf] at hk
      rw [if_neg hf]
      by_cases g1 : far ws ss ≤ far ws (s :: ss) ∧ far ws ss ≤ far (w :: ws) ss
      · rw [if_pos g1] at hk
        rw [hk]
        simp only [if_true, show ¬ (1 = 0) by decide, if_false]
        refine ⟨.turn hs.1 hsw a1, ?_, by simp; omega⟩
        have e1 : corr (⟨1, s⟩ :: marksF f ws ss) = corr (marksF f ws ss) + 1 := by simp [corr]
        rw [e1, a2]; omega
      · rw [if_neg g1] at hk
        by_cases g2 : far ws (s :: ss) ≤ far (w :: ws) ss
        · rw [if_pos g2] at hk
          rw [hk]
          simp only [if_true, show ¬ (2 = 0) by decide, show ¬ (2 = 1) by decide, if_false]
          exact ⟨.drop b1, by rw [e2, b2]; omega, by simp; omega⟩
        · rw [if_neg g2] at hk
          rw [hk]
          simp only [if_true, show ¬ (3 = 0) by decide, show ¬ (3 = 1) by decide, show ¬ (3 = 2) by decide, if_false]
          exact ⟨.put hs.1 c1, by rw [e3, c2]; omega, by simp; omega⟩
theorem fewest_apply {a b : List Wd} (ha : letterE a = 0) (hb : letterE b = 0) : applyR a (marksF (a.length + b.length) a b) = (b, 0) ∧ corr (marksF (a.length + b.length) a b) = far a b := by
  obtain ⟨h1, h2, h3⟩ := marks_ap (a.length + b.length) a b (Nat.le_refl _) (letter_zero.1 hb).2
  have := (letter_zero.1 ha).1
  have := (letter_zero.1 hb).1
  exact ⟨ap_applyR h1 ha (by omega) (by omega), h2⟩
end Go.Px

namespace Go.Px
open Go.Proofs
def turnF (x : List UInt8) (n : Nat) : Int := match x[n % x.length]? with | some c => (c.toNat : Int) | none => 0
theorem turnF_nn (x : List UInt8) (n : Nat) : 0 ≤ turnF x n := by
  unfold turnF
  split <;> omega
theorem turnF_le (x : List UInt8) (n : Nat) : turnF x n ≤ 255 := by
  unfold turnF
  split
  · rename_i c _
    have := c.toNat_lt
    omega
  · omega
/-- The words of which letters are made. -/
def saidL : List Wd := [[97], [105], [97, 115, 107], [116, 111], [116, 104, 101], [98], [106, 117, 100, 103, 101], [109, 101, 114, 99, 121]]
def saidW (t : Int) : Wd := (saidL[(t % 8).toNat]?).getD []
theorem saidL_ok : saidL.all wordB = true := by decide +kernel
theorem saidW_get (t : Int) : saidL[(t % 8).toNat]? = some (saidW t) := by
  have h : (t % 8).toNat < saidL.length := by
    show _ < 8
    omega
  obtain ⟨w, hw⟩ := ex_get h
  unfold saidW
  rw [hw]; rfl
theorem saidW_ok (t : Int) : wordB (saidW t) = true := List.all_eq_true.1 saidL_ok _ (List.mem_of_getElem? (saidW_get t))
/-- The kind of a mark. -/
def aloudK (x : List UInt8) (L i : Nat) (w : Wd) (left o : Nat) : Int :=
  if (turnF x (2 * i) % 4 = 1 ∧ saidW (turnF x (2 * i + 1)) = w) ∨ (turnF x (2 * i) % 4 = 3 ∧ (2 * L ≤ i ∨ 15 ≤ o + left)) then 0 else turnF x (2 * i) % 4
def aloudF (x : List UInt8) (L : Nat) : Nat → Nat → List Wd → Nat → List Mark × List Wd
  | 0, _, _, _ => ([], [])
  | _ + 1, _, [], _ => ([], [])
  | f + 1, i, w :: ws, o =>
    if aloudK x L i w (ws.length + 1) o = 3 then (⟨3, saidW (turnF x (2 * i + 1))⟩ :: (aloudF x L f (i + 1) (w :: ws) (o + 1)).1, saidW (turnF x (2 * i + 1)) :: (aloudF x L f (i + 1) (w :: ws) (o + 1)).2)
    else if aloudK x L i w (ws.length + 1) o = 2 then (⟨2, []⟩ :: (aloudF x L f (i + 1) ws o).1, (aloudF x L f (i + 1) ws o).2)
    else if aloudK x L i w (ws.length + 1) o = 1 then (⟨1, saidW (turnF x (2 * i + 1))⟩ :: (aloudF x L f (i + 1) ws (o + 1)).1, saidW (turnF x (2 * i + 1)) :: (aloudF x L f (i + 1) ws (o + 1)).2)
    else (⟨0, []⟩ :: (aloudF x L f (i + 1) ws (o + 1)).1, w :: (aloudF x L f (i + 1) ws (o + 1)).2)
theorem aloudK_cases (x : List UInt8) (L i : Nat) (w : Wd) (left o : Nat) : (aloudK x L i w left o = 0 ∨ aloudK x L i w left o = 1 ∨ aloudK x L i w left o = 2 ∨ aloudK x L i w left o = 3) ∧
    (aloudK x L i w left o = 1 → saidW (turnF x (2 * i + 1)) ≠ w) ∧ (aloudK x L i w left o = 3 → i < 2 * L ∧ o + left < 15) := by
  have h0 := turnF_nn x (2 * i)
  unfold aloudK
  by_cases h : (turnF x (2 * i) % 4 = 1 ∧ saidW (turnF x (2 * i + 1)) = w) ∨ (turnF x (2 * i) % 4 = 3 ∧ (2 * L ≤ i ∨ 15 ≤ o + left))
  · rw [if_pos h]
    exact ⟨.inl rfl, fun h => (by cases h), fun h => (by cases h)⟩
  · rw [if_neg h]
    refine ⟨by omega, fun e hs => h (.inl ⟨e, hs⟩), fun e => ?_⟩
    have : ¬ (2 * L ≤ i ∨ 15 ≤ o + left) := fun g => h (.inr ⟨e, g⟩)
    omega
theorem aloud_ap (x : List UInt8) (L : Nat) : ∀ (f i : Nat) (ws : List Wd) (o : Nat), ws.length + (2 * L - i) ≤ f → o + ws.length ≤ 15 →
    Ap (aloudF x L f i ws o).1 ws (aloudF x L f i ws o).2 ∧ o + (aloudF x L f i ws o).2.length ≤ 15 ∧ (aloudF x L f i ws o).1.length ≤ ws.length + (aloudF x L f i ws o).2.length
  | 0, i, [], o, _, h => ⟨.nil, h, Nat.le_refl _⟩
  | 0, i, w :: ws, o, hf, _ => by simp at hf
  | f + 1, i, [], o, _, h => ⟨.nil, h, Nat.le_refl _⟩
  | f + 1, i, w :: ws, o, hf, h => by
    simp only [List.length_cons] at hf h
    obtain ⟨hk, hk1, hk3⟩ := aloudK_cases x L i w (ws.length + 1) o
    have hw := saidW_ok (turnF x (2 * i + 1))
    simp only [aloudF]
    by_cases h3 : aloudK x L i w (ws.length + 1) o = 3
    · rw [if_pos h3]
      obtain ⟨g1, g2⟩ := hk3 h3
      obtain ⟨a1, a2, a3⟩ := aloud_ap x L f (i + 1) (w :: ws) (o + 1) (by simp; omega) (by simp; omega)
      simp only [List.length_cons] at a2 a3 ⊢
      exact ⟨.put hw a1, by omega, by omega⟩
    rw [if_neg h3]
    by_cases h2 : aloudK x L i w (ws.length + 1) o = 2
    · rw [if_pos h2]
      obtain ⟨a1, a2, a3⟩ := aloud_ap x L f (i + 1) ws o (by omega) (by omega)
      simp only [List.length_cons]
      exact ⟨.drop a1, by omega, by omega⟩
    rw [if_neg h2]
    obtain ⟨a1, a2, a3⟩ := aloud_ap x L f (i + 1) ws (o + 1) (by omega) (by omega)
    by_cases h1 : aloudK x L i w (ws.length + 1) o = 1
    · rw [if_pos h1]
      simp only [List.length_cons]
      exact ⟨.turn hw (hk1 h1) a1, by omega, by omega⟩
    · rw [if_neg h1]
      simp only [List.length_cons]
      exact ⟨.keep a1, by omega, by omega⟩
end Go.Px

namespace Go.Px
open Go.Proofs
theorem inB_of (n lo hi : Int) : (decide (lo ≤ n) && decide (n ≤ hi)) = !beyondB lo hi [n] := by
  rw [← inB_not]; simp
theorem rWord_ev (l : Wd) : Ev Try.prog 123 [Str l] (B (wordB l)) := by
  refine Ev.intro fn123 ?_
  refine LWp.sx (gs := []) (hs := []) rfl trivial ?_
  have hin := in_ev l.length 1 8
  rw [inB_of] at hin
  refine LWp.seq (LWp.seq ?_)
  refine LWp.x (gs := []) (hs := [.ret (B (!beyondB 1 8 [(l.length : Int)]))]) rfl ⟨hin, trivial⟩ ?_
  have hwe := wordB_eq l
  have hb8 : beyondB 1 8 [(l.length : Int)] = false → l.length ≤ 8 := fun h => by simp [beyondB] at h; omega
  generalize beyondB 1 8 [(l.length : Int)] = bb at hwe hb8
  refine LWp.ite rfl (fun h => ?_) (fun h => LWp.skip ?_)
  · have h : bb = true := by simpa using h
    refine LWp.sx (gs := []) (hs := []) rfl trivial ?_
    refine LWp.ret (retT (.inr rfl) (.one (.tmp ?_ rfl)))
    rw [hwe, h]; rfl
  · have h : bb = false := by simpa using h
    have hl8 := hb8 h
    rw [h, Bool.not_false, Bool.true_and] at hwe
    refine LWp.seq (LWp.seq ?_)
    refine LWp.x (gs := []) (hs := []) rfl trivial ?_
    refine LWp.blockT (fun _ : Unit => l.all (fun c => lowB c.toNat) = true) (fun _ => el []) (fun _ => []) (fun _ => []) ?_ ?_
    · refine LWp.loopN (fun k : Nat => k ≤ l.length ∧ l.all (fun c => lowB c.toNat) = (l.drop k).all (fun c => lowB c.toNat)) (fun k => el [(0, Str l), (3, I k)]) (fun _ => []) (fun _ => []) (fun k => l.length - k) 0 ⟨by omega, rfl⟩
        (Ent.el ⟨rfl, rfl, trivial⟩) ?_
      rintro k ⟨hk, hi⟩
      refine LWp.seq (LWp.seq ?_)
      refine LWp.x (gs := []) (hs := []) rfl trivial ?_
      refine LWp.ite rfl (fun hc => ?_) (fun hc => ?_)
      · have hc : k < l.length := by simpa [ByteArray.size] using hc
        obtain ⟨c, hcc⟩ := ex_get hc
        rw [drop_cons hcc, List.all_cons] at hi
        refine LWp.skip ?_
        refine LWp.blockX (fun _ : Unit => lowB c.toNat = true) (fun _ => el [(0, Str l), (3, I k)]) (fun _ => []) (fun _ => []) ?_ ?_
        · have hby : (⟨l.toArray⟩ : ByteArray).data.toList[((k : Nat) : Int).toNat]? = some c := by simpa using hcc
          refine LWp.seq ?_
          by_cases h1 : (c.toNat : Int) < 97
          · have g1 : decide ((c.toNat : Int) < 97) = true := decide_eq_true h1
            refine LWp.x (gs := [(18, true)]) (hs := [.byte c]) rfl (by (repeat' (with_reducible apply And.intro)); (all_goals try first | (with_reducible exact trivial) | (with_reducible rfl) | (with_reducible assumption) | ((with_reducible apply isB); first | exact rfl | exact beq_self_eq_true _)); exact (by omega)) ?_
            refine LWp.ite (b := true) rfl (fun _ => ?_) (fun h => by cases h)
            refine LWp.sx (gs := []) (hs := []) rfl trivial ?_
            refine LWp.ret (retT (.inr rfl) (.one (.tmp ?_ rfl)))
            have : lowB c.toNat = false := by simp [lowB]; omega
            rw [hwe, hi, this]; rfl
          · have g1 : decide ((c.toNat : Int) < 97) = false := decide_eq_false h1
            refine LWp.x (gs := [(18, false)]) (hs := [.byte c, .byte c]) rfl (by (repeat' (with_reducible apply And.intro)); (all_goals try first | (with_reducible exact trivial) | (with_reducible rfl) | (with_reducible assumption) | ((with_reducible apply isB); first | exact rfl | exact beq_self_eq_true _)); exact (by omega); exact (by omega)) ?_
            refine LWp.ite rfl (fun h2 => ?_) (fun h2 => LWp.skip ?_)
            · refine LWp.sx (gs := []) (hs := []) rfl trivial ?_
              refine LWp.ret (retT (.inr rfl) (.one (.tmp ?_ rfl)))
              have : lowB c.toNat = false := by simp at h2; simp [lowB]; omega
              rw [hwe, hi, this]; rfl
            · refine ⟨(), ?_, Ent.el ⟨rfl, rfl, trivial⟩⟩
              simp at h2; simp [lowB]; omega
        · intro _ hl
          refine LWp.x (gs := []) (hs := []) rfl ⟨by omega, trivial⟩ ?_
          exact ⟨k + 1, ⟨by omega, by rw [hi, hl, Bool.true_and]⟩, by omega, Ent.el ⟨rfl, rfl, trivial⟩⟩
      · have hc : ¬ k < l.length := by simpa [ByteArray.size] using hc
        refine LWp.exit ⟨(), ?_, Ent.el trivial⟩
        rw [hi, drop_nil hc]; rfl
    · intro _ hl
      refine LWp.sx (gs := []) (hs := []) rfl trivial ?_
      refine LWp.ret (retT (.inr rfl) (.one (.tmp ?_ rfl)))
      rw [hwe, hl]
      rfl
theorem rwords_ev (l : List Wd) : Ev Try.prog 95 [strs l] (B (wordsB l)) := by
  refine Ev.intro fn95 ?_
  refine LWp.slLen 0 rfl fun hll => ?_
  simp only [List.length_map] at hll
  refine LWp.sx (gs := []) (hs := []) rfl trivial ?_
  refine LWp.sx (gs := []) (hs := []) rfl trivial ?_
  refine LWp.seq (LWp.seq ?_)
  refine LWp.x (gs := []) (hs := []) rfl trivial ?_
  refine LWp.blockT (fun _ : Unit => True) (fun _ => el [(3, B (wordsB l))]) (fun _ => []) (fun _ => []) ?_ ?_
  · refine LWp.loopN (X := Nat × Bool) (fun x => x.1 ≤ l.length ∧ wordsB l = (x.2 && wordsB (l.drop x.1))) (fun x => el [(0, strs l), (3, B x.2), (4, I x.1)]) (fun _ => []) (fun _ => []) (fun x => l.length - x.1) (0, true) ⟨by simp, by simp⟩
      (Ent.el ⟨rfl, rfl, rfl, trivial⟩) ?_
    rintro ⟨k, f⟩ ⟨hk, hi⟩
    simp only at hk hi ⊢
    refine LWp.seq (LWp.seq ?_)
    refine LWp.x (gs := []) (hs := []) rfl trivial ?_
    refine LWp.ite rfl (fun hc => ?_) (fun hc => ?_)
    · simp only [List.length_map, decide_eq_true_eq, Int.ofNat_lt] at hc
      obtain ⟨s, hs⟩ := ex_get hc
      rw [drop_cons hs] at hi
      have hi : wordsB l = ((f && wordB s) && wordsB (l.drop (k + 1))) := by rw [hi, Bool.and_assoc]; rfl
      refine LWp.skip ?_
      refine LWp.blockX (fun _ : Unit => True) (fun _ => el [(0, strs l), (3, B (f && wordB s)), (4, I k)]) (fun _ => []) (fun _ => []) ?_ ?_
      · cases f with
        | false =>
          refine LWp.x (gs := [(12, false)]) (hs := []) rfl (by (repeat' (with_reducible apply And.intro)); (all_goals try first | (with_reducible exact trivial) | (with_reducible rfl) | (with_reducible assumption) | ((with_reducible apply isB); first | exact rfl | exact beq_self_eq_true _))) ?_
          exact ⟨(), trivial, Ent.el ⟨rfl, rfl, rfl, trivial⟩⟩
        | true =>
          refine LWp.x (gs := [(12, true)]) (hs := [.cells [Str s], .ret (B (wordB s))]) rfl (by (repeat' (with_reducible apply And.intro)); (all_goals try first | (with_reducible exact trivial) | (with_reducible rfl) | (with_reducible assumption) | ((with_reducible apply isB); first | exact rfl | exact beq_self_eq_true _)); exact (by omega); exact (by simp [hs]); exact rWord_ev s) ?_
          exact ⟨(), trivial, Ent.el ⟨rfl, rfl, rfl, trivial⟩⟩
      · intro _ _
        refine LWp.x (gs := []) (hs := []) rfl ⟨by omega, trivial⟩ ?_
        exact ⟨(k + 1, f && wordB s), ⟨by simp only; omega, hi⟩, by simp only; omega, Ent.el ⟨rfl, rfl, rfl, trivial⟩⟩
    · simp only [List.length_map, decide_eq_false_iff_not, Int.ofNat_lt] at hc
      refine LWp.exit ⟨(), trivial, Ent.el ⟨?_, trivial⟩⟩
      rw [hi, drop_nil hc]
      show B _ = B _
      simp [wordsB]
  · intro _ _
    refine LWp.sx (gs := []) (hs := []) rfl trivial ?_
    refine LWp.ret (retT (.inr rfl) (.one (.tmp ?_ rfl)))
    rfl
theorem rLetter_ev (l : List Wd) : Ev Try.prog 48 [strs l] (I (letterE l)) := by
  refine Ev.intro fn48 ?_
  refine LWp.sx (gs := []) (hs := []) rfl trivial ?_
  refine LWp.seq (LWp.seq ?_)
  refine LWp.x (gs := []) (hs := []) rfl trivial ?_
  refine LWp.ite rfl (fun h => ?_) (fun h => LWp.skip ?_)
  · have h : 15 < l.length := by simp at h; omega
    refine LWp.sx (gs := []) (hs := []) rfl trivial ?_
    refine LWp.ret (retT (.inr rfl) (.one (.tmp ?_ rfl)))
    show I _ = I _
    unfold letterE
    rw [if_pos h]
  · have h : ¬ 15 < l.length := by simp at h; omega
    refine LWp.seq (LWp.seq ?_)
    refine LWp.x (gs := []) (hs := [.ret (B (wordsB l))]) rfl ⟨rwords_ev l, trivial⟩ ?_
    refine LWp.ite rfl (fun hw => ?_) (fun hw => LWp.skip ?_)
    · have hw : wordsB l = false := by simpa using hw
      refine LWp.sx (gs := []) (hs := []) rfl trivial ?_
      refine LWp.ret (retT (.inr rfl) (.one (.tmp ?_ rfl)))
      show I _ = I _
      unfold letterE
      rw [if_neg h, if_neg (by simp [hw])]
    · have hw : wordsB l = true := by simpa using hw
      refine LWp.sx (gs := []) (hs := []) rfl trivial ?_
      refine LWp.ret (retT (.inr rfl) (.one (.tmp ?_ rfl)))
      show I _ = I _
      unfold letterE
      rw [if_neg h, if_pos hw]
end Go.Px

namespace Go.Px
open Go.Proofs
theorem rcorr_ev (ms : List Mark) : Ev Try.prog 50 [marksV ms] (I (corr ms : Nat)) := by
  refine Ev.intro fn50 ?_
  refine LWp.slLen 0 rfl fun hll => ?_
  have hl : (ms.map Mark.enc).length = ms.length := List.length_map _
  refine LWp.sx (gs := []) (hs := []) rfl trivial ?_
  refine LWp.sx (gs := []) (hs := []) rfl trivial ?_
  refine LWp.seq (LWp.seq ?_)
  refine LWp.x (gs := []) (hs := []) rfl trivial ?_
  refine LWp.blockT (fun _ : Unit => True) (fun _ => el [(3, I (corr ms : Nat))]) (fun _ => []) (fun _ => []) ?_ ?_
  · refine LWp.loopN (fun k : Nat => k ≤ ms.length) (fun k => el [(0, marksV ms), (3, I (corr (ms.take k) : Nat)), (4, I k)]) (fun _ => []) (fun _ => []) (fun k => ms.length - k) 0 (Nat.zero_le _)
      (Ent.el ⟨rfl, rfl, rfl, trivial⟩) ?_
    intro k hk
    refine LWp.seq (LWp.seq ?_)
    refine LWp.x (gs := []) (hs := []) rfl trivial ?_
    refine LWp.ite rfl (fun he => ?_) (fun he => ?_)
    · simp only [List.length_map, decide_eq_true_eq, Int.ofNat_lt] at he
      obtain ⟨m, hm⟩ := ex_get he
      have htk : corr (ms.take (k + 1)) = corr (ms.take k) + if m.k = 0 then 0 else 1 := by
        rw [take_snoc hm]
        simp only [corr, List.countP_append]
        congr 1
        by_cases h : m.k = 0 <;> simp [h]
      have hle : corr (ms.take k) ≤ k := Nat.le_trans (List.countP_le_length) (by rw [List.length_take]; omega)
      refine LWp.skip ?_
      refine LWp.blockX (fun _ : Unit => True) (fun _ => el [(0, marksV ms), (3, I (corr (ms.take (k + 1)) : Nat)), (4, I k)]) (fun _ => []) (fun _ => []) ?_ ?_
      · refine LWp.seq ?_
        refine LWp.x (gs := []) (hs := [.cells m.enc]) rfl ⟨⟨by omega, by simp [hm]⟩, trivial⟩ ?_
        by_cases h0 : m.k = 0
        · refine LWp.ite (b := false) (by show B _ = B _; exact congrArg B (by simp [h0])) (fun h => by cases h) (fun _ => LWp.skip ?_)
          exact ⟨(), trivial, Ent.el ⟨rfl, by rw [htk, if_pos h0]; rfl, rfl, trivial⟩⟩
        · refine LWp.ite (b := true) (by show B _ = B _; exact congrArg B (by rw [bne_iff_ne]; exact h0)) (fun _ => ?_) (fun h => by cases h)
          refine LWp.x (gs := []) (hs := []) rfl ⟨by omega, trivial⟩ ?_
          exact ⟨(), trivial, Ent.el ⟨rfl, by rw [htk, if_neg h0]; rfl, rfl, trivial⟩⟩
      intro _ _
      refine LWp.x (gs := []) (hs := []) rfl ⟨by omega, trivial⟩ ?_
      exact ⟨k + 1, by omega, by omega, Ent.el ⟨rfl, rfl, rfl, trivial⟩⟩
    · simp only [List.length_map, decide_eq_false_iff_not, Int.ofNat_lt] at he
      exact LWp.exit ⟨(), trivial, Ent.el ⟨by rw [List.take_of_length_le (by omega)]; rfl, trivial⟩⟩
  intro _ _
  refine LWp.sx (gs := []) (hs := []) rfl trivial ?_
  refine LWp.ret (retT (.inr rfl) (.one (.tmp ?_ rfl)))
  rfl
end Go.Px

namespace Go.Px
open Go.Proofs
abbrev bytes (x : List UInt8) : AV := .sl 1 (x.map fun c => [U c.toNat])
theorem turn_ev (x : List UInt8) (n : Nat) : Ev Try.prog 93 [bytes x, I n] (I (turnF x n)) := by
  refine Ev.intro fn93 ?_
  refine LWp.sx (gs := []) (hs := []) rfl trivial ?_
  refine LWp.seq (LWp.seq ?_)
  refine LWp.x (gs := []) (hs := []) rfl trivial ?_
  refine LWp.ite rfl (fun h => ?_) (fun h => LWp.skip ?_)
  · simp only [beq_iff_eq, List.length_map] at h
    have e : x = [] := List.length_eq_zero_iff.1 (by omega)
    subst e
    refine LWp.sx (gs := []) (hs := []) rfl trivial ?_
    refine LWp.ret (retT (.inr rfl) (.one (.tmp ?_ rfl)))
    rfl
  · simp only [beq_eq_false_iff_ne, ne_eq, List.length_map] at h
    have hl : 0 < x.length := by omega
    obtain ⟨c, hc⟩ := ex_get (Nat.mod_lt n hl)
    have em : ((n : Int) % ((x.map fun c => [U c.toNat]).length : Int)).toNat = n % x.length := by simp; omega
    have e0 : (0 : Int) ≤ (n : Int) % ((x.map fun c => [U c.toNat]).length : Int) := Int.emod_nonneg _ (by rw [List.length_map]; omega)
    have hcl := c.toNat_lt
    refine LWp.sx (gs := []) (hs := [.cells [U c.toNat]]) rfl ⟨⟨by omega, by simp; omega⟩, ⟨e0, by rw [em]; simp [hc]⟩, i64_wrap (by omega) (by omega), trivial⟩ ?_
    refine LWp.ret (retT (.inr rfl) (.one (.tmp ?_ rfl)))
    show I _ = I _
    unfold turnF
    rw [hc]
theorem said_ev : Ev Try.prog 94 [] (strs saidL) := by
  refine Ev.intro fn94 ?_
  refine LWp.sx (gs := []) (hs := []) rfl trivial ?_
  refine LWp.sx (gs := []) (hs := [.ice]) rfl ⟨rfl, trivial⟩ ?_
  refine LWp.ret (retT (.inr rfl) (.one (.tmp ?_ rfl)))
  rfl
theorem fewestR_bad {A C : List Wd} (h : fewestE A C ≠ 0) : fewestR A C = ([], 0, fewestE A C) := by unfold fewestR; rw [if_neg h]
theorem fewestR_good {A C : List Wd} (hA : letterE A = 0) (hC : letterE C = 0) : fewestR A C = (marksF (A.length + C.length) A C, ((far A C : Nat) : Int), 0) := by
  unfold fewestR
  rw [if_pos (fewestE_zero.2 ⟨hA, hC⟩)]
end Go.Px

namespace Go.Px
open Go.Proofs
theorem aloud_step (x : List UInt8) (L f i o : Nat) (w : Wd) (ws : List Wd) : aloudF x L (f + 1) i (w :: ws) o =
    (⟨aloudK x L i w (ws.length + 1) o, if aloudK x L i w (ws.length + 1) o = 1 ∨ aloudK x L i w (ws.length + 1) o = 3 then saidW (turnF x (2 * i + 1)) else []⟩ ::
      (aloudF x L f (i + 1) (if aloudK x L i w (ws.length + 1) o = 3 then w :: ws else ws) (if aloudK x L i w (ws.length + 1) o = 2 then o else o + 1)).1,
     (if aloudK x L i w (ws.length + 1) o = 2 then [] else if aloudK x L i w (ws.length + 1) o = 0 then [w] else [saidW (turnF x (2 * i + 1))]) ++
      (aloudF x L f (i + 1) (if aloudK x L i w (ws.length + 1) o = 3 then w :: ws else ws) (if aloudK x L i w (ws.length + 1) o = 2 then o else o + 1)).2) := by
  have hk := (aloudK_cases x L i w (ws.length + 1) o).1
  simp only [aloudF]
  generalize aloudK x L i w (ws.length + 1) o = k at hk
  rcases hk with rfl | rfl | rfl | rfl <;> simp
theorem raloud_ev (l : List Wd) (x : List UInt8) (h15 : l.length ≤ 15) : Ev Try.prog 51 [strs l, bytes x] (.tup [marksV (aloudF x l.length (3 * l.length) 0 l 0).1, strs (aloudF x l.length (3 * l.length) 0 l 0).2]) := by
  have hll : (l.map fun s => [Str s]).length = l.length := List.length_map _
  refine Ev.intro fn51 ?_
  refine LWp.sx (gs := []) (hs := []) rfl trivial ?_
  refine LWp.sx (gs := []) (hs := []) rfl trivial ?_
  refine LWp.ent (Ent.nilSl (t := 6) 2 rfl) ?_
  refine LWp.sx (gs := []) (hs := []) rfl trivial ?_
  refine LWp.ent (Ent.nilLin (t := 7) 9 1 rfl) ?_
  refine LWp.sx (gs := []) (hs := []) rfl trivial ?_
  refine LWp.seq (LWp.seq ?_)
  refine LWp.x (gs := []) (hs := []) rfl trivial ?_
  generalize hF : aloudF x l.length (3 * l.length) 0 l 0 = F
  refine LWp.blockT (fun _ : Unit => True) (fun _ => el [(6, marksV F.1), (7, strs F.2)]) (fun _ => []) (fun _ => []) ?_ ?_
  · refine LWp.loopN (X := Nat × Nat × List Mark × List Wd) (fun y => y.2.1 ≤ l.length ∧ y.1 ≤ 2 * l.length + y.2.1 ∧ y.2.2.1.length ≤ y.1 ∧ y.2.2.2.length + (l.length - y.2.1) ≤ 15 ∧ ∃ f, (l.length - y.2.1) + (2 * l.length - y.1) ≤ f ∧ F = (y.2.2.1 ++ (aloudF x l.length f y.1 (l.drop y.2.1) y.2.2.2.length).1, y.2.2.2 ++ (aloudF x l.length f y.1 (l.drop y.2.1) y.2.2.2.length).2))
      (fun y => el [(0, strs l), (1, bytes x), (6, marksV y.2.2.1), (7, .lin 9 1 (y.2.2.2.map fun s => [Str s])), (8, I y.2.1), (9, I y.1)]) (fun _ => []) (fun _ => []) (fun y => (l.length - y.2.1) + (2 * l.length - y.1)) (0, 0, [], []) ⟨by simp, by simp, by simp, by simp; omega, 3 * l.length, by simp; omega, by rw [← hF]; rfl⟩
      (Ent.el ⟨rfl, rfl, rfl, rfl, rfl, rfl, trivial⟩) ?_
    rintro ⟨i, a, ms, out⟩ ⟨ha, hi, hml, hol, f, hf, hFe⟩
    simp only at ha hi hml hol hf hFe
    have hmel : (ms.map Mark.enc).length = ms.length := List.length_map _
    have hoel : (out.map fun s => [Str s]).length = out.length := List.length_map _
    refine LWp.ent (Ent.el (l := [(0, strs l), (1, bytes x), (6, marksV ms), (7, .lin 9 1 (out.map fun s => [Str s])), (8, I a), (9, I i)]) ⟨rfl, rfl, rfl, rfl, rfl, rfl, trivial⟩) ?_
    refine LWp.seq (LWp.seq ?_)
    refine LWp.x (gs := []) (hs := []) rfl trivial ?_
    refine LWp.ite rfl (fun he => ?_) (fun he => ?_)
    · simp only [List.length_map, decide_eq_true_eq, Int.ofNat_lt] at he
      obtain ⟨w, hw⟩ := ex_get he
      obtain ⟨f', rfl⟩ : ∃ f', f = f' + 1 := ⟨f - 1, by omega⟩
      rw [drop_cons hw, aloud_step] at hFe
      have hlen : (l.drop (a + 1)).length + 1 = l.length - a := by rw [List.length_drop]; omega
      rw [hlen] at hFe
      have hK := aloudK_cases x l.length i w (l.length - a) out.length
      have hKd : aloudK x l.length i w (l.length - a) out.length = if (turnF x (2 * i) % 4 = 1 ∧ saidW (turnF x (2 * i + 1)) = w) ∨ (turnF x (2 * i) % 4 = 3 ∧ (2 * l.length ≤ i ∨ 15 ≤ out.length + (l.length - a))) then 0 else turnF x (2 * i) % 4 := rfl
      have t1 := turn_ev x (2 * i)
      have t2 := turn_ev x (2 * i + 1)
      have hsg := saidW_get (turnF x (2 * i + 1))
      have n1 := turnF_nn x (2 * i)
      have n2 := turnF_nn x (2 * i + 1)
      have u1 := turnF_le x (2 * i)
      have u2 := turnF_le x (2 * i + 1)
      generalize turnF x (2 * i) = v1 at *
      generalize hsw : saidW (turnF x (2 * i + 1)) = sw at *
      generalize turnF x (2 * i + 1) = v2 at *
      refine LWp.skip ?_
      have t1' : Ev Try.prog 93 [bytes x, I (2 * (i : Int))] (I v1) := by
        have := t1
        rw [Int.natCast_mul] at this; exact this
      have t2' : Ev Try.prog 93 [bytes x, I (2 * (i : Int) + 1)] (I v2) := by
        have := t2
        rw [Int.natCast_add, Int.natCast_mul] at this; exact this
      have hL8 : ((saidL.map fun s => [Str s]).length : Int) = 8 := rfl
      have hsd := said_ev
      generalize hk : aloudK x l.length i w (l.length - a) out.length = k at *
      refine LWp.blockX (fun _ : Unit => True) (fun _ => el [(0, strs l), (1, bytes x), (6, marksV (ms ++ [⟨k, if k = 1 ∨ k = 3 then sw else []⟩])), (7, .lin 9 1 ((out ++ (if k = 2 then [] else if k = 0 then [w] else [sw])).map fun s => [Str s])), (8, I (if k = 3 then a else a + 1 : Nat)), (9, I i)]) (fun _ => []) (fun _ => []) ?_ ?_
      · refine LWp.sx (gs := []) (hs := [.ret (I v1)]) rfl ⟨⟨by omega, by omega⟩, t1', trivial⟩ ?_
        generalize saidL = sl at hsg hL8 hsd
        refine LWp.sx (gs := []) (hs := [.ret (strs sl), .ret (I v2), .ret (strs sl), .cells [Str sw]]) rfl (by exact ⟨hsd, ⟨by omega, by omega⟩, ⟨by omega, by omega⟩, t2', hsd, ⟨n2, by rw [hL8]; omega⟩, ⟨by rw [hL8]; omega, by rw [hL8]; simp [hsg]⟩, trivial⟩) ?_
        refine LWp.sx (gs := []) (hs := []) rfl ⟨⟨n1, by decide⟩, trivial⟩ ?_
        refine LWp.ent (Ent.el (l := [(0, strs l), (1, bytes x), (6, marksV ms), (7, .lin 9 1 (out.map fun s => [Str s])), (8, I a), (9, I i), (11, Str sw), (12, I (v1 % 4))]) ⟨rfl, rfl, rfl, rfl, rfl, rfl, rfl, rfl, trivial⟩) ?_
        refine LWp.cutX (fun _ : Unit => True) (fun _ => el [(0, strs l), (1, bytes x), (6, marksV ms), (7, .lin 9 1 (out.map fun s => [Str s])), (8, I a), (9, I i), (11, Str sw), (12, I k)]) (fun _ => []) (fun _ => []) ?_ ?_
        · refine LWp.cutX (fun _ : Unit => True) (fun _ => el [(0, strs l), (1, bytes x), (6, marksV ms), (7, .lin 9 1 (out.map fun s => [Str s])), (8, I a), (9, I i), (11, Str sw), (12, I (v1 % 4)), (67, B (decide ((v1 % 4 = 1 ∧ sw = w) ∨ (v1 % 4 = 3 ∧ (2 * l.length ≤ i ∨ 15 ≤ out.length + (l.length - a))))))]) (fun _ => []) (fun _ => []) ?_ ?_
          · generalize v1 % 4 = z
            by_cases h1 : z = 1
            · subst h1
              by_cases hq : sw = w
              · have g3 : ((ByteArray.mk sw.toArray).toList == (ByteArray.mk w.toArray).toList) = true := by simp [hq]
                refine LWp.x (gs := [(39, true), (47, true)]) (hs := [.cells [Str w]]) rfl (by (repeat' (with_reducible apply And.intro)); (all_goals first | (with_reducible exact trivial) | (with_reducible rfl) | (with_reducible assumption) | ((with_reducible apply isB); first | exact rfl | exact beq_self_eq_true _) | omega | ((simp [hw]; done)))) ?_
                refine ⟨(), trivial, Ent.el ⟨rfl, rfl, rfl, rfl, rfl, rfl, rfl, rfl, ?_, trivial⟩⟩
                show B _ = B _
                exact congrArg B (decide_eq_true (.inl ⟨rfl, hq⟩)).symm
              · have g3 : ((ByteArray.mk sw.toArray).toList == (ByteArray.mk w.toArray).toList) = false := by simp [hq]
                refine LWp.x (gs := [(39, true), (47, false), (50, false)]) (hs := [.cells [Str w]]) rfl (by (repeat' (with_reducible apply And.intro)); (all_goals first | (with_reducible exact trivial) | (with_reducible rfl) | (with_reducible assumption) | ((with_reducible apply isB); first | exact rfl | exact beq_self_eq_true _) | omega | ((simp [hw]; done)))) ?_
                refine ⟨(), trivial, Ent.el ⟨rfl, rfl, rfl, rfl, rfl, rfl, rfl, rfl, ?_, trivial⟩⟩
                show B _ = B _
                exact congrArg B (decide_eq_false (fun h => by rcases h with h | h; exact hq h.2; exact absurd h.1 (by decide))).symm
            have g1 : (z == 1) = false := by rw [beq_eq_false_iff_ne]; exact h1
            by_cases h3 : z = 3
            · subst h3
              refine LWp.peek 7 rfl (fun ad cap => ?_)
              by_cases hi2 : 2 * l.length ≤ i
              · refine LWp.x (gs := [(39, false), (47, false), (50, true), (56, true)]) (hs := []) rfl (by (repeat' (with_reducible apply And.intro)); (all_goals first | (with_reducible exact trivial) | (with_reducible rfl) | (with_reducible assumption) | ((with_reducible apply isB); first | exact rfl | exact beq_self_eq_true _) | omega | ((apply decide_eq_true; omega)))) ?_
                refine ⟨(), trivial, Ent.trans (Ent.unpeek (t := 7) rfl) (Ent.el ⟨rfl, rfl, rfl, rfl, rfl, rfl, rfl, rfl, ?_, trivial⟩)⟩
                show B _ = B _
                exact congrArg B (decide_eq_true (.inr ⟨rfl, .inl hi2⟩)).symm
              · refine LWp.x (gs := [(39, false), (47, false), (50, true), (56, false)]) (hs := []) rfl (by (repeat' (with_reducible apply And.intro)); (all_goals first | (with_reducible exact trivial) | (with_reducible rfl) | (with_reducible assumption) | ((with_reducible apply isB); first | exact rfl | exact beq_self_eq_true _) | omega | ((apply decide_eq_false; omega)))) ?_
                refine ⟨(), trivial, Ent.trans (Ent.unpeek (t := 7) rfl) (Ent.el ⟨rfl, rfl, rfl, rfl, rfl, rfl, rfl, rfl, ?_, trivial⟩)⟩
                show B (decide ((((out.map fun s => [Str s]).length : Int) + ((l.map fun s => [Str s]).length : Int) - (a : Int)) ≥ 15)) = B _
                refine congrArg B ?_
                rw [hoel, hll, Bool.eq_iff_iff, decide_eq_true_eq, decide_eq_true_eq]
                omega
            · have g4 : (z == 3) = false := by rw [beq_eq_false_iff_ne]; exact h3
              refine LWp.x (gs := [(39, false), (47, false), (50, false)]) (hs := []) rfl (by (repeat' (with_reducible apply And.intro)); (all_goals first | (with_reducible exact trivial) | (with_reducible rfl) | (with_reducible assumption) | ((with_reducible apply isB); first | exact rfl | exact beq_self_eq_true _) | omega | ((skip)))) ?_
              refine ⟨(), trivial, Ent.el ⟨rfl, rfl, rfl, rfl, rfl, rfl, rfl, rfl, ?_, trivial⟩⟩
              show B _ = B _
              exact congrArg B (decide_eq_false (fun h => by rcases h with h | h; exact h1 h.1; exact h3 h.1)).symm
          intro _ _
          refine LWp.ite rfl (fun h => ?_) (fun h => LWp.skip ?_)
          · rw [if_pos (of_decide_eq_true h)] at hKd
            refine LWp.x (gs := []) (hs := []) rfl trivial ?_
            exact ⟨(), trivial, Ent.el ⟨rfl, rfl, rfl, rfl, rfl, rfl, rfl, by rw [hKd]; rfl, trivial⟩⟩
          · rw [if_neg (of_decide_eq_false h)] at hKd
            exact ⟨(), trivial, Ent.el ⟨rfl, rfl, rfl, rfl, rfl, rfl, rfl, by rw [hKd]; rfl, trivial⟩⟩
        intro _ _
        have hk4 : k = 0 ∨ k = 1 ∨ k = 2 ∨ k = 3 := hK.1
        refine LWp.seq (LWp.ops ?_)
        refine WOps.xn (gs := []) (hs := []) 2 rfl rfl trivial ?_
        refine WOps.cons (Op1.alloc rfl (fun b => ?_))
        refine WOps.cons (Op1.storeO (i := 0) rfl rfl rfl rfl rfl rfl (by show 2 ≤ 2; decide) ?_)
        refine WOps.nil ?_
        refine LWp.ent (Ent.trans (Ent.ofH (H' := [(b, .cells 123 [I k, Str []])]) rfl) (Ent.el (l := [(0, strs l), (1, bytes x), (6, marksV ms), (7, .lin 9 1 (out.map fun s => [Str s])), (8, I a), (9, I i), (11, Str sw), (12, I k), (13, .po b 0)]) ⟨rfl, rfl, rfl, rfl, rfl, rfl, rfl, rfl, rfl, trivial⟩)) ?_
        rcases hk4 with rfl | rfl | rfl | rfl
        · have hW : (out ++ (if (0 : Int) = 2 then [] else if (0 : Int) = 0 then [w] else [sw])) = out ++ [w] := rfl
          have hm1 : (⟨0, if (0 : Int) = 1 ∨ (0 : Int) = 3 then sw else []⟩ : Mark) = ⟨0, []⟩ := rfl
          rw [hW, hm1]
          refine LWp.seq (LWp.seq ?_)
          refine LWp.x (gs := [(72, false)]) (hs := []) rfl (by (repeat' (with_reducible apply And.intro)); (all_goals try first | (with_reducible exact trivial) | (with_reducible rfl) | (with_reducible assumption) | ((with_reducible apply isB); first | exact rfl | exact beq_self_eq_true _))) ?_
          refine LWp.ite (b := false) rfl (fun h => by cases h) (fun _ => LWp.skip ?_)
          refine LWp.seq (LWp.seq ?_)
          refine LWp.x (gs := []) (hs := []) rfl trivial ?_
          refine LWp.ite (b := true) rfl (fun _ => ?_) (fun h => by cases h)
          refine LWp.x (gs := []) (hs := [.cells [Str w], .ice]) rfl ⟨⟨by omega, by simp [hw]⟩, rfl, ⟨by rw [hoel]; show (out.length + 1) * 16 ≤ _; omega, by rw [hoel]; show out.length + 1 ≤ _; omega⟩, trivial⟩ ?_
          refine LWp.seq (LWp.seq ?_)
          refine LWp.x (gs := []) (hs := []) rfl trivial ?_
          refine LWp.ite (b := true) rfl (fun _ => ?_) (fun h => by cases h)
          refine LWp.x (gs := []) (hs := []) rfl ⟨by omega, trivial⟩ ?_
          refine LWp.ent (Ent.freezeBox (i := 0) 13 rfl rfl) ?_
          refine LWp.dd (gs := []) (hs := [.lin, .ice]) hmix rfl (by kernel_rfl) ⟨rfl, ⟨by show (0 + (ms.map Mark.enc).length) * 24 ≤ _; rw [hmel]; omega, by show 0 + (ms.map Mark.enc).length ≤ _; rw [hmel]; omega⟩, rfl, ⟨by show ((([] : List (List AV)) ++ ms.map Mark.enc).length + 1) * 24 ≤ _; rw [List.nil_append, hmel]; omega, by show (([] : List (List AV)) ++ ms.map Mark.enc).length + 1 ≤ _; rw [List.nil_append, hmel]; omega⟩, trivial⟩ ?_
          refine ⟨(), trivial, Ent.trans (Ent.freezeLin (t := 6) rfl) (Ent.el ⟨rfl, rfl, by show _ = AV.sl 2 ((ms ++ [_]).map Mark.enc); rw [List.map_append]; rfl, by show _ = AV.lin _ 1 ((out ++ [_]).map fun s => [Str s]); rw [List.map_append]; rfl, rfl, rfl, trivial⟩)⟩
        · have hW : (out ++ (if (1 : Int) = 2 then [] else if (1 : Int) = 0 then [w] else [sw])) = out ++ [sw] := rfl
          have hm1 : (⟨1, if (1 : Int) = 1 ∨ (1 : Int) = 3 then sw else []⟩ : Mark) = ⟨1, sw⟩ := rfl
          rw [hW, hm1]
          refine LWp.seq (LWp.seq ?_)
          refine LWp.x (gs := [(72, true)]) (hs := []) rfl (by (repeat' (with_reducible apply And.intro)); (all_goals try first | (with_reducible exact trivial) | (with_reducible rfl) | (with_reducible assumption) | ((with_reducible apply isB); first | exact rfl | exact beq_self_eq_true _))) ?_
          refine LWp.ite (b := true) rfl (fun _ => ?_) (fun h => by cases h)
          refine LWp.seq (LWp.ops ?_)
          refine WOps.xn (gs := []) (hs := []) 2 rfl rfl trivial ?_
          refine WOps.cons (Op1.storeO (i := 0) rfl rfl rfl rfl rfl rfl (by show 2 ≤ 2; decide) ?_)
          refine WOps.nil ?_
          refine LWp.ent (Ent.trans (Ent.ofH (H' := [(b, .cells 123 [I 1, Str sw])]) rfl) (Ent.el (l := [(0, strs l), (1, bytes x), (6, marksV ms), (7, .lin 9 1 (out.map fun s => [Str s])), (8, I a), (9, I i), (11, Str sw), (12, I 1), (13, .po b 0)]) ⟨rfl, rfl, rfl, rfl, rfl, rfl, rfl, rfl, rfl, trivial⟩)) ?_
          refine LWp.x (gs := []) (hs := [.ice]) rfl ⟨rfl, ⟨by rw [hoel]; show (out.length + 1) * 16 ≤ _; omega, by rw [hoel]; show out.length + 1 ≤ _; omega⟩, trivial⟩ ?_
          refine LWp.seq (LWp.seq ?_)
          refine LWp.x (gs := []) (hs := []) rfl trivial ?_
          refine LWp.ite (b := false) rfl (fun h => by cases h) (fun _ => LWp.skip ?_)
          refine LWp.seq (LWp.seq ?_)
          refine LWp.x (gs := []) (hs := []) rfl trivial ?_
          refine LWp.ite (b := true) rfl (fun _ => ?_) (fun h => by cases h)
          refine LWp.x (gs := []) (hs := []) rfl ⟨by omega, trivial⟩ ?_
          refine LWp.ent (Ent.freezeBox (i := 0) 13 rfl rfl) ?_
          refine LWp.dd (gs := []) (hs := [.lin, .ice]) hmix rfl (by kernel_rfl) ⟨rfl, ⟨by show (0 + (ms.map Mark.enc).length) * 24 ≤ _; rw [hmel]; omega, by show 0 + (ms.map Mark.enc).length ≤ _; rw [hmel]; omega⟩, rfl, ⟨by show ((([] : List (List AV)) ++ ms.map Mark.enc).length + 1) * 24 ≤ _; rw [List.nil_append, hmel]; omega, by show (([] : List (List AV)) ++ ms.map Mark.enc).length + 1 ≤ _; rw [List.nil_append, hmel]; omega⟩, trivial⟩ ?_
          refine ⟨(), trivial, Ent.trans (Ent.freezeLin (t := 6) rfl) (Ent.el ⟨rfl, rfl, by show _ = AV.sl 2 ((ms ++ [_]).map Mark.enc); rw [List.map_append]; rfl, by show _ = AV.lin _ 1 ((out ++ [_]).map fun s => [Str s]); rw [List.map_append]; rfl, rfl, rfl, trivial⟩)⟩
        · have hW : (out ++ (if (2 : Int) = 2 then [] else if (2 : Int) = 0 then [w] else [sw])) = out ++ [] := rfl
          have hm1 : (⟨2, if (2 : Int) = 1 ∨ (2 : Int) = 3 then sw else []⟩ : Mark) = ⟨2, []⟩ := rfl
          rw [hW, hm1]
          refine LWp.seq (LWp.seq ?_)
          refine LWp.x (gs := [(72, false)]) (hs := []) rfl (by (repeat' (with_reducible apply And.intro)); (all_goals try first | (with_reducible exact trivial) | (with_reducible rfl) | (with_reducible assumption) | ((with_reducible apply isB); first | exact rfl | exact beq_self_eq_true _))) ?_
          refine LWp.ite (b := false) rfl (fun h => by cases h) (fun _ => LWp.skip ?_)
          refine LWp.seq (LWp.seq ?_)
          refine LWp.x (gs := []) (hs := []) rfl trivial ?_
          refine LWp.ite (b := false) rfl (fun h => by cases h) (fun _ => LWp.skip ?_)
          refine LWp.seq (LWp.seq ?_)
          refine LWp.x (gs := []) (hs := []) rfl trivial ?_
          refine LWp.ite (b := true) rfl (fun _ => ?_) (fun h => by cases h)
          refine LWp.x (gs := []) (hs := []) rfl ⟨by omega, trivial⟩ ?_
          refine LWp.ent (Ent.freezeBox (i := 0) 13 rfl rfl) ?_
          refine LWp.dd (gs := []) (hs := [.lin, .ice]) hmix rfl (by kernel_rfl) ⟨rfl, ⟨by show (0 + (ms.map Mark.enc).length) * 24 ≤ _; rw [hmel]; omega, by show 0 + (ms.map Mark.enc).length ≤ _; rw [hmel]; omega⟩, rfl, ⟨by show ((([] : List (List AV)) ++ ms.map Mark.enc).length + 1) * 24 ≤ _; rw [List.nil_append, hmel]; omega, by show (([] : List (List AV)) ++ ms.map Mark.enc).length + 1 ≤ _; rw [List.nil_append, hmel]; omega⟩, trivial⟩ ?_
          refine ⟨(), trivial, Ent.trans (Ent.freezeLin (t := 6) rfl) (Ent.el ⟨rfl, rfl, by show _ = AV.sl 2 ((ms ++ [_]).map Mark.enc); rw [List.map_append]; rfl, by rw [List.append_nil]; rfl, rfl, rfl, trivial⟩)⟩
        · have hW : (out ++ (if (3 : Int) = 2 then [] else if (3 : Int) = 0 then [w] else [sw])) = out ++ [sw] := rfl
          have hm1 : (⟨3, if (3 : Int) = 1 ∨ (3 : Int) = 3 then sw else []⟩ : Mark) = ⟨3, sw⟩ := rfl
          rw [hW, hm1]
          refine LWp.seq (LWp.seq ?_)
          refine LWp.x (gs := [(72, false)]) (hs := []) rfl (by (repeat' (with_reducible apply And.intro)); (all_goals try first | (with_reducible exact trivial) | (with_reducible rfl) | (with_reducible assumption) | ((with_reducible apply isB); first | exact rfl | exact beq_self_eq_true _))) ?_
          refine LWp.ite (b := true) rfl (fun _ => ?_) (fun h => by cases h)
          refine LWp.seq (LWp.ops ?_)
          refine WOps.xn (gs := []) (hs := []) 2 rfl rfl trivial ?_
          refine WOps.cons (Op1.storeO (i := 0) rfl rfl rfl rfl rfl rfl (by show 2 ≤ 2; decide) ?_)
          refine WOps.nil ?_
          refine LWp.ent (Ent.trans (Ent.ofH (H' := [(b, .cells 123 [I 3, Str sw])]) rfl) (Ent.el (l := [(0, strs l), (1, bytes x), (6, marksV ms), (7, .lin 9 1 (out.map fun s => [Str s])), (8, I a), (9, I i), (11, Str sw), (12, I 3), (13, .po b 0)]) ⟨rfl, rfl, rfl, rfl, rfl, rfl, rfl, rfl, rfl, trivial⟩)) ?_
          refine LWp.x (gs := []) (hs := [.ice]) rfl ⟨rfl, ⟨by rw [hoel]; show (out.length + 1) * 16 ≤ _; omega, by rw [hoel]; show out.length + 1 ≤ _; omega⟩, trivial⟩ ?_
          refine LWp.seq (LWp.seq ?_)
          refine LWp.x (gs := []) (hs := []) rfl trivial ?_
          refine LWp.ite (b := false) rfl (fun h => by cases h) (fun _ => LWp.skip ?_)
          refine LWp.seq (LWp.seq ?_)
          refine LWp.x (gs := []) (hs := []) rfl trivial ?_
          refine LWp.ite (b := false) rfl (fun h => by cases h) (fun _ => LWp.skip ?_)
          refine LWp.ent (Ent.freezeBox (i := 0) 13 rfl rfl) ?_
          refine LWp.dd (gs := []) (hs := [.lin, .ice]) hmix rfl (by kernel_rfl) ⟨rfl, ⟨by show (0 + (ms.map Mark.enc).length) * 24 ≤ _; rw [hmel]; omega, by show 0 + (ms.map Mark.enc).length ≤ _; rw [hmel]; omega⟩, rfl, ⟨by show ((([] : List (List AV)) ++ ms.map Mark.enc).length + 1) * 24 ≤ _; rw [List.nil_append, hmel]; omega, by show (([] : List (List AV)) ++ ms.map Mark.enc).length + 1 ≤ _; rw [List.nil_append, hmel]; omega⟩, trivial⟩ ?_
          refine ⟨(), trivial, Ent.trans (Ent.freezeLin (t := 6) rfl) (Ent.el ⟨rfl, rfl, by show _ = AV.sl 2 ((ms ++ [_]).map Mark.enc); rw [List.map_append]; rfl, by show _ = AV.lin _ 1 ((out ++ [_]).map fun s => [Str s]); rw [List.map_append]; rfl, rfl, rfl, trivial⟩)⟩
      intro _ _
      refine LWp.x (gs := []) (hs := []) rfl ⟨by omega, trivial⟩ ?_
      refine ⟨(i + 1, (if k = 3 then a else a + 1), ms ++ [⟨k, if k = 1 ∨ k = 3 then sw else []⟩], out ++ (if k = 2 then [] else if k = 0 then [w] else [sw])), ⟨?_, ?_, ?_, ?_, f', ?_, ?_⟩, ?_, Ent.el ⟨rfl, rfl, rfl, rfl, rfl, rfl, trivial⟩⟩
      all_goals simp only
      · split <;> omega
      · split <;> omega
      · simp; omega
      · rcases hK.1 with h | h | h | h
        · subst h; simp; omega
        · subst h; simp; omega
        · subst h; simp; omega
        · have := hK.2.2 h
          subst h; simp; omega
      · rcases hK.1 with h | h | h | h
        · subst h; simp; omega
        · subst h; simp; omega
        · subst h; simp; omega
        · have := hK.2.2 h
          subst h; simp; omega
      · rw [hFe]
        rcases hK.1 with h | h | h | h
        · subst h; simp
        · subst h; simp
        · subst h; simp
        · subst h; simp [drop_cons hw]
      · rcases hK.1 with h | h | h | h
        · subst h; simp; omega
        · subst h; simp; omega
        · subst h; simp; omega
        · have := hK.2.2 h
          subst h; simp; omega
    · simp only [List.length_map, decide_eq_false_iff_not, Int.ofNat_lt] at he
      have e1 : a = l.length := by omega
      have e2 : aloudF x l.length f i (l.drop a) out.length = ([], []) := by
        rw [e1, List.drop_length]; cases f <;> rfl
      rw [e2] at hFe
      simp only [List.append_nil] at hFe
      refine LWp.exit ⟨(), trivial, Ent.trans (Ent.freezeLin (t := 7) rfl) (Ent.el ⟨by rw [hFe]; rfl, by rw [hFe]; rfl, trivial⟩)⟩
  intro _ _
  refine LWp.sx (gs := []) (hs := []) rfl trivial ?_
  exact LWp.ret (retT (.inr rfl) (.many (by decide) ⟨.tmp rfl rfl, .tmp rfl rfl, trivial⟩))
end Go.Px

namespace Go.Px
open Go.Proofs
theorem ap_words {ms : List Mark} {ws out : List Wd} (h : Ap ms ws out) (hw : wordsB ws = true) : wordsB out = true := by
  induction h with
  | nil => rfl
  | keep _ ih =>
    simp only [wordsB, List.all_cons, Bool.and_eq_true] at hw ⊢
    exact ⟨hw.1, ih hw.2⟩
  | turn hv _ _ ih =>
    simp only [wordsB, List.all_cons, Bool.and_eq_true] at hw ⊢
    exact ⟨hv, ih hw.2⟩
  | drop _ ih =>
    simp only [wordsB, List.all_cons, Bool.and_eq_true] at hw
    exact ih hw.2
  | put hv _ ih =>
    simp only [wordsB, List.all_cons, Bool.and_eq_true]
    exact ⟨hv, ih hw⟩
set_option maxRecDepth 20000 in
set_option maxHeartbeats 2000000 in
theorem letterFewest_ev (A C : List Wd) (x : List UInt8) : Ev Try.prog 11 [strs A, strs C, bytes x] (B true) := by
  have e1 := fewest_ev A C
  have l1 := rLetter_ev A
  have l2 := rLetter_ev C
  refine Ev.intro fn11 ?_
  by_cases h : letterE A = 0 ∧ letterE C = 0
  · obtain ⟨hA, hC⟩ := h
    rw [fewestR_good hA hC] at e1
    rw [hA] at l1
    rw [hC] at l2
    obtain ⟨p1, p2⟩ := fewest_apply hA hC
    have e2 := apply_ev A (marksF (A.length + C.length) A C)
    rw [p1] at e2
    have e3 := rcorr_ev (marksF (A.length + C.length) A C)
    rw [p2] at e3
    obtain ⟨hA15, hAw⟩ := letter_zero.1 hA
    have e4 := raloud_ev A x hA15
    obtain ⟨a1, a2, a3⟩ := aloud_ap x A.length (3 * A.length) 0 A 0 (by omega) (by omega)
    generalize (aloudF x A.length (3 * A.length) 0 A 0).1 = ms at a1 a2 a3 e4
    generalize (aloudF x A.length (3 * A.length) 0 A 0).2 = out at a1 a2 a3 e4
    have hO : letterE out = 0 := letter_zero.2 ⟨by omega, ap_words a1 hAw⟩
    have e5 := apply_ev A ms
    rw [ap_applyR a1 hA (by omega) (by omega)] at e5
    have e6 := fewest_ev A out
    rw [fewestR_good hA hO] at e6
    have e7 := rcorr_ev ms
    have hle := far_least (ap_scr a1)
    have s1 := same_refl C
    have s2 := same_refl out
    have hn : ((far A C : Nat) : Int) = (far A C : Nat) := rfl
    generalize marksF (A.length + C.length) A C = M1 at e1 e2 e3
    generalize marksF (A.length + out.length) A out = M2 at e6
    generalize far A C = n at e1 e3
    generalize far A out = n2 at e6 hle
    generalize corr ms = n3 at e7 hle
    refine LWp.sx (gs := []) (hs := []) rfl trivial ?_
    refine LWp.sx (gs := []) (hs := [.ret (.tup [marksV M1, I n, I 0])]) rfl ⟨e1, trivial⟩ ?_
    refine LWp.seq (LWp.seq ?_)
    refine LWp.x (gs := [(29, false)]) (hs := [.ret (I 0), .ret (I 0)]) rfl (by (repeat' (with_reducible apply And.intro)); (all_goals first | (with_reducible exact trivial) | (with_reducible rfl) | (with_reducible assumption) | ((with_reducible apply isB); first | exact rfl | exact beq_self_eq_true _) | omega | ((first | exact l1 | exact l2)))) ?_
    refine LWp.ite (b := false) rfl (fun h => by cases h) (fun _ => LWp.skip ?_)
    refine LWp.sx (gs := []) (hs := [.ret (.tup [strs C, I 0])]) rfl ⟨e2, trivial⟩ ?_
    refine LWp.seq (LWp.seq ?_)
    have hnn : ((n : Int) != (n : Int)) = false := by simp
    refine LWp.x (gs := [(56, false), (60, false), (66, false)]) (hs := [.ret (B true), .ret (I n)]) rfl (by (repeat' (with_reducible apply And.intro)); (all_goals first | (with_reducible exact trivial) | (with_reducible rfl) | (with_reducible assumption) | ((with_reducible apply isB); first | exact rfl | exact beq_self_eq_true _) | omega | ((first | exact s1 | exact e3)))) ?_
    refine LWp.ite (b := false) (by show B _ = B _; exact congrArg B hnn) (fun h => by cases h) (fun _ => LWp.skip ?_)
    refine LWp.sx (gs := []) (hs := [.ret (.tup [marksV ms, strs out])]) rfl ⟨e4, trivial⟩ ?_
    refine LWp.sx (gs := []) (hs := [.ret (.tup [strs out, I 0])]) rfl ⟨e5, trivial⟩ ?_
    refine LWp.sx (gs := []) (hs := [.ret (.tup [marksV M2, I n2, I 0])]) rfl ⟨e6, trivial⟩ ?_
    have hle2 : decide ((n2 : Int) ≤ (n3 : Int)) = true := decide_eq_true (by omega)
    refine LWp.sx (gs := [(93, true), (97, true), (102, true), (108, true)]) (hs := [.ret (B true), .ret (I n3), .ret (B true)]) rfl (by (repeat' (with_reducible apply And.intro)); (all_goals first | (with_reducible exact trivial) | (with_reducible rfl) | (with_reducible assumption) | ((with_reducible apply isB); first | exact rfl | exact beq_self_eq_true _) | omega | ((first | exact s2 | exact e7 | exact awake_ev)))) ?_
    refine LWp.ret (retT (.inr rfl) (.one (.tmp ?_ rfl)))
    rfl
  · have hb1 : fewestE A C ≠ 0 := fun g => h (fewestE_zero.1 g)
    rw [fewestR_bad hb1] at e1
    generalize fewestE A C = r1 at hb1 e1
    generalize letterE A = x1 at l1 h
    generalize letterE C = x2 at l2 h
    have g1 : (r1 != 0) = true := by rw [bne_iff_ne]; exact hb1
    refine LWp.sx (gs := []) (hs := []) rfl trivial ?_
    refine LWp.sx (gs := []) (hs := [.ret (.tup [marksV [], I 0, I r1])]) rfl ⟨e1, trivial⟩ ?_
    refine LWp.seq (LWp.cutX (fun _ : Unit => True) (fun _ => el [(7, marksV []), (8, I 0), (9, I r1), (33, B true)]) (fun _ => []) (fun _ => []) ?_ ?_)
    · by_cases hx1 : x1 = 0
      · have hx2 : x2 ≠ 0 := fun g => h ⟨hx1, g⟩
        have k1 : (x1 != 0) = false := by rw [hx1]; rfl
        have k2 : (x2 != 0) = true := by rw [bne_iff_ne]; exact hx2
        refine LWp.x (gs := [(29, false)]) (hs := [.ret (I x1), .ret (I x2)]) rfl (by (repeat' (with_reducible apply And.intro)); (all_goals first | (with_reducible exact trivial) | (with_reducible rfl) | (with_reducible assumption) | ((with_reducible apply isB); first | exact rfl | exact beq_self_eq_true _) | omega | ((first | exact l1 | exact l2)))) ?_
        exact ⟨(), trivial, Ent.el ⟨rfl, rfl, rfl, by show B _ = B _; exact congrArg B k2, trivial⟩⟩
      · have k1 : (x1 != 0) = true := by rw [bne_iff_ne]; exact hx1
        refine LWp.x (gs := [(29, true)]) (hs := [.ret (I x1)]) rfl (by (repeat' (with_reducible apply And.intro)); (all_goals first | (with_reducible exact trivial) | (with_reducible rfl) | (with_reducible assumption) | ((with_reducible apply isB); first | exact rfl | exact beq_self_eq_true _) | omega | ((first | exact l1)))) ?_
        exact ⟨(), trivial, Ent.el ⟨rfl, rfl, rfl, rfl, trivial⟩⟩
    intro _ _
    refine LWp.ite (b := true) rfl (fun _ => ?_) (fun h => by cases h)
    refine LWp.sx (gs := [(36, true), (40, true), (45, true)]) (hs := [.ret (B true)]) rfl (by (repeat' (with_reducible apply And.intro)); (all_goals first | (with_reducible exact trivial) | (with_reducible rfl) | (with_reducible assumption) | ((with_reducible apply isB); first | exact rfl | exact beq_self_eq_true _) | omega | ((first | exact awake_ev)))) ?_
    refine LWp.ret (retT (.inr rfl) (.one (.tmp ?_ rfl)))
    rfl
end Go.Px

namespace Go.Px
open Go.Proofs Go.Proofs.Ytbplgdbdpdhipaa
open Go.ChangeShapes Go.WideShapes Go.ChangeAt Go.RowKit
def bytesSh : Sh := .sl (.int .u8)
theorem fits_byte (l : List AV) (h : Fits (.int .u8) l) : ∃ a : UInt8, True ∧ l = [U a.toNat] := by
  simp only [Fits] at h
  obtain ⟨n, rfl, hn⟩ := h
  have := bounds_u8 hn
  refine ⟨n.toNat.toUInt8, trivial, ?_⟩
  have e : n.toNat.toUInt8.toNat = n.toNat % 256 := rfl
  rw [e, show ((n.toNat % 256 : Nat) : Int) = n by omega]
theorem fits_bytes1 (l : List AV) (h : Fits bytesSh l) : ∃ x : List UInt8, l = [bytes x] := by
  simp only [bytesSh, Fits.eq_4] at h
  obtain ⟨es, rfl, _, hes⟩ := h
  obtain ⟨x, _, rfl⟩ := fits_list fits_byte hes
  exact ⟨x, rfl⟩
theorem fits_bytes (a : AV) (h : FitA bytesSh a) : ∃ x : List UInt8, a = bytes x := by
  have h : Fits bytesSh [a] := h
  obtain ⟨x, e⟩ := fits_bytes1 _ h
  simp only [List.cons.injEq, and_true] at e
  exact ⟨x, e⟩
end Go.Px

