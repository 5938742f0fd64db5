/- Part 1 of the proof of the statement LetterTexts (contracts of the functions that it alone wants). No conditions. -/
import Derived.Test.YtbplgdbdpdhipaaA7
import Derived.Test.YtbplgdbdpdhipaaChecked
import Derived.KernelRfl
namespace Go.Px
open Go.Proofs
set_option maxRecDepth 100000
def L5 : LCode :=
 (.seq
 (.ops [⟨(some 3), none, .box 24 (tm 0)⟩,
 ⟨(some 6), none, .mov (.const (.bool false))⟩])
 (.seq
 (.ops [⟨(some 14), none, .load 24 (tm 3) (some 2)⟩,
 ⟨(some 15), none, .mov (tm 1)⟩,
 ⟨(some 16), none, .call 28 [(tm 14), (tm 15)] 43⟩,
 ⟨(some 13), none, .mov (tm 16)⟩,
 ⟨(some 17), none, .extract (tm 13) 0⟩,
 ⟨(some 18), none, .extract (tm 13) 1⟩,
 ⟨(some 7), none, .mov (tm 17)⟩,
 ⟨(some 8), none, .mov (tm 18)⟩])
 (.seq
 (.ops [⟨(some 20), none, .load 24 (tm 3) (some 2)⟩,
 ⟨(some 21), none, .mov (tm 1)⟩,
 ⟨(some 22), none, .call 29 [(tm 20), (tm 21)] 43⟩,
 ⟨(some 19), none, .mov (tm 22)⟩,
 ⟨(some 23), none, .extract (tm 19) 0⟩,
 ⟨(some 24), none, .extract (tm 19) 1⟩,
 ⟨(some 9), none, .mov (tm 23)⟩,
 ⟨(some 10), none, .mov (tm 24)⟩])
 (.seq
 (.seq
 (.ops [⟨(some 25), none, .mov (tm 7)⟩,
 ⟨(some 26), none, .mov (tm 9)⟩,
 ⟨(some 27), none, .bin .neq 9 (tm 25) (tm 26)⟩,
 ⟨(some 28), none, .mov (tm 27)⟩,
 ⟨(some 29), some (28, false), .mov (tm 8)⟩,
 ⟨(some 30), some (28, false), .mov (tm 10)⟩,
 ⟨(some 31), some (28, false), .bin .neq 26 (tm 29) (tm 30)⟩,
 ⟨(some 32), none, .pick (tm 28) (.const (.bool true)) (tm 31)⟩])
 (.ite (tm 32)
 (.seq
 (.ops [⟨(some 6), none, .mov (.const (.bool false))⟩])
 .ret)
 .skip))
 (.seq
 (.ops [⟨(some 34), none, .load 24 (tm 3) (some 2)⟩,
 ⟨(some 35), none, .mov (tm 2)⟩,
 ⟨(some 36), none, .call 30 [(tm 34), (tm 35)] 30⟩,
 ⟨(some 33), none, .mov (tm 36)⟩,
 ⟨(some 37), none, .extract (tm 33) 0⟩,
 ⟨(some 38), none, .extract (tm 33) 1⟩,
 ⟨(some 11), none, .mov (tm 37)⟩,
 ⟨(some 8), none, .mov (tm 38)⟩])
 (.seq
 (.ops [⟨(some 40), none, .load 24 (tm 3) (some 2)⟩,
 ⟨(some 41), none, .mov (tm 2)⟩,
 ⟨(some 42), none, .call 31 [(tm 40), (tm 41)] 30⟩,
 ⟨(some 39), none, .mov (tm 42)⟩,
 ⟨(some 43), none, .extract (tm 39) 0⟩,
 ⟨(some 44), none, .extract (tm 39) 1⟩,
 ⟨(some 12), none, .mov (tm 43)⟩,
 ⟨(some 10), none, .mov (tm 44)⟩])
 (.seq
 (.ops [⟨(some 45), none, .mov (tm 11)⟩,
 ⟨(some 46), none, .mov (tm 12)⟩,
 ⟨(some 47), none, .call 20 [(tm 45), (tm 46)] 4⟩,
 ⟨(some 48), none, .mov (tm 47)⟩,
 ⟨(some 49), some (48, true), .mov (tm 8)⟩,
 ⟨(some 50), some (48, true), .mov (tm 10)⟩,
 ⟨(some 51), some (48, true), .bin .eql 26 (tm 49) (tm 50)⟩,
 ⟨(some 52), none, .pick (tm 48) (tm 51) (.const (.bool false))⟩,
 ⟨(some 53), none, .mov (tm 52)⟩,
 ⟨(some 54), some (53, true), .call 21 [] 4⟩,
 ⟨(some 55), none, .pick (tm 53) (tm 54) (.const (.bool false))⟩,
 ⟨(some 6), none, .mov (tm 55)⟩])
 .ret)))))))
theorem fn5 : FnOK Try.prog 5 56 [.tmp 6] L5 := ⟨Try.f5, Try.func5, by kernel_rfl, Try.ntmps5, by rw [Try.results5], by kernel_rfl⟩
def L17 : LCode :=
 (.seq
 (.ops [⟨(some 1), none, .box 24 (tm 0)⟩,
 ⟨(some 2), none, .mov (kc 0)⟩,
 ⟨(some 3), none, .mov (kc 0)⟩,
 ⟨(some 4), none, .mov (kc 0)⟩])
 (.seq
 (.seq
 (.ops [⟨(some 10), none, .faddr 24 (tm 1) 0 0⟩,
 ⟨(some 11), none, .load 3 (tm 10) none⟩,
 ⟨(some 12), none, .call 53 [(tm 11), (kc 8), (kc 30)] 4⟩,
 ⟨(some 13), none, .un .not (tm 12)⟩])
 (.ite (tm 13)
 (.seq
 (.ops [⟨(some 2), none, .mov (kc 1)⟩,
 ⟨(some 3), none, .mov (kc 0)⟩,
 ⟨(some 4), none, .mov (kc 7)⟩])
 .ret)
 .skip))
 (.seq
 (.seq
 (.ops [⟨(some 14), none, .faddr 24 (tm 1) 1 1⟩,
 ⟨(some 15), none, .load 22 (tm 14) none⟩,
 ⟨(some 16), none, .len false 22 3 (tm 15)⟩,
 ⟨(some 17), none, .bin .gtr 3 (tm 16) (kc 4)⟩])
 (.ite (tm 17)
 (.seq
 (.ops [⟨(some 2), none, .mov (kc 2)⟩,
 ⟨(some 3), none, .mov (kc 0)⟩,
 ⟨(some 4), none, .mov (kc 3)⟩])
 .ret)
 .skip))
 (.seq
 (.ops [⟨(some 5), none, .mov (.const (.slice none 0 0))⟩])
 (.seq
 (.seq
 (.ops [⟨(some 6), none, .mov (kc 0)⟩])
 (.block 0
 (.loop
 (.seq
 (.seq
 (.ops [⟨(some 18), none, .mov (tm 6)⟩,
 ⟨(some 19), none, .faddr 24 (tm 1) 1 1⟩,
 ⟨(some 20), none, .load 22 (tm 19) none⟩,
 ⟨(some 21), none, .len false 22 3 (tm 20)⟩,
 ⟨(some 22), none, .bin .lss 3 (tm 18) (tm 21)⟩])
 (.ite (tm 22)
 .skip
 (.exit 0)))
 (.seq
 (.block 1
 (.seq
 (.ops [⟨(some 25), none, .faddr 24 (tm 1) 1 1⟩,
 ⟨(some 26), none, .load 22 (tm 25) none⟩,
 ⟨(some 27), none, .mov (tm 6)⟩,
 ⟨(some 28), none, .iaddr 22 (tm 26) (tm 27) 2⟩,
 ⟨(some 29), none, .load 64 (tm 28) (some 2)⟩,
 ⟨(some 7), none, .alloc 64 [(.string ⟨#[]⟩), (.slice none 0 0)]⟩,
 ⟨none, none, .store 64 (tm 7) (tm 29) 2⟩])
 (.seq
 (.ops [⟨(some 30), none, .faddr 64 (tm 7) 0 0⟩,
 ⟨(some 31), none, .load 9 (tm 30) none⟩,
 ⟨(some 32), none, .mov (tm 5)⟩,
 ⟨(some 33), none, .call 62 [(tm 31), (tm 32)] 26⟩,
 ⟨(some 8), none, .mov (tm 33)⟩])
 (.seq
 (.ops [⟨(some 34), none, .mov (tm 5)⟩,
 ⟨(some 35), none, .faddr 64 (tm 7) 0 0⟩,
 ⟨(some 36), none, .load 9 (tm 35) none⟩,
 ⟨(some 37), none, .bslice 29 1 [(0, (tm 36))] 9 1 [(.string ⟨#[]⟩)]⟩,
 ⟨(some 38), none, .append 29 29 (tm 34) (tm 37) 9 1 16 [(.string ⟨#[]⟩)]⟩,
 ⟨(some 5), none, .mov (tm 38)⟩])
 (.seq
 (.seq
 (.ops [⟨(some 39), none, .mov (tm 8)⟩,
 ⟨(some 40), none, .bin .eql 26 (tm 39) (kc 0)⟩,
 ⟨(some 41), none, .mov (tm 40)⟩,
 ⟨(some 42), some (41, true), .faddr 64 (tm 7) 1 1⟩,
 ⟨(some 43), some (41, true), .load 62 (tm 42) none⟩,
 ⟨(some 44), some (41, true), .len false 62 3 (tm 43)⟩,
 ⟨(some 45), some (41, true), .bin .gtr 3 (tm 44) (kc 5)⟩,
 ⟨(some 46), none, .pick (tm 41) (tm 45) (.const (.bool false))⟩])
 (.ite (tm 46)
 (.ops [⟨(some 8), none, .mov (kc 3)⟩])
 .skip))
 (.seq
 (.seq
 (.ops [⟨(some 9), none, .mov (kc 0)⟩])
 (.block 2
 (.loop
 (.seq
 (.seq
 (.ops [⟨(some 47), none, .mov (tm 9)⟩,
 ⟨(some 48), none, .faddr 64 (tm 7) 1 1⟩,
 ⟨(some 49), none, .load 62 (tm 48) none⟩,
 ⟨(some 50), none, .len false 62 3 (tm 49)⟩,
 ⟨(some 51), none, .bin .lss 3 (tm 47) (tm 50)⟩,
 ⟨(some 52), none, .mov (tm 51)⟩,
 ⟨(some 53), some (52, true), .mov (tm 8)⟩,
 ⟨(some 54), some (52, true), .bin .eql 26 (tm 53) (kc 0)⟩,
 ⟨(some 55), none, .pick (tm 52) (tm 54) (.const (.bool false))⟩])
 (.ite (tm 55)
 .skip
 (.exit 2)))
 (.seq
 (.block 3
 (.ops [⟨(some 58), none, .faddr 64 (tm 7) 1 1⟩,
 ⟨(some 59), none, .load 62 (tm 58) none⟩,
 ⟨(some 60), none, .mov (tm 9)⟩,
 ⟨(some 61), none, .iaddr 62 (tm 59) (tm 60) 3⟩,
 ⟨(some 62), none, .load 84 (tm 61) (some 3)⟩,
 ⟨(some 63), none, .call 63 [(tm 62)] 26⟩,
 ⟨(some 8), none, .mov (tm 63)⟩]))
 (.ops [⟨(some 56), none, .mov (tm 9)⟩,
 ⟨(some 57), none, .bin .add 3 (tm 56) (kc 1)⟩,
 ⟨(some 9), none, .mov (tm 57)⟩]))))))
 (.seq
 (.ops [⟨(some 64), none, .mov (tm 8)⟩,
 ⟨(some 65), none, .bin .neq 26 (tm 64) (kc 0)⟩])
 (.ite (tm 65)
 (.seq
 (.ops [⟨(some 66), none, .mov (tm 6)⟩,
 ⟨(some 67), none, .mov (tm 8)⟩,
 ⟨(some 2), none, .mov (kc 2)⟩,
 ⟨(some 3), none, .mov (tm 66)⟩,
 ⟨(some 4), none, .mov (tm 67)⟩])
 .ret)
 .skip))))))))
 (.ops [⟨(some 23), none, .mov (tm 6)⟩,
 ⟨(some 24), none, .bin .add 3 (tm 23) (kc 1)⟩,
 ⟨(some 6), none, .mov (tm 24)⟩]))))))
 (.seq
 (.ops [⟨(some 2), none, .mov (kc 0)⟩,
 ⟨(some 3), none, .mov (kc 0)⟩,
 ⟨(some 4), none, .mov (kc 0)⟩])
 .ret))))))
theorem fn17 : FnOK Try.prog 17 68 [.tmp 2, .tmp 3, .tmp 4] L17 := ⟨Try.f17, Try.func17, by kernel_rfl, Try.ntmps17, by rw [Try.results17], by kernel_rfl⟩
def L29 : LCode :=
 (.seq
 (.ops [⟨(some 2), none, .box 24 (tm 0)⟩,
 ⟨(some 4), none, .mov (.const (.string ⟨#[]⟩))⟩,
 ⟨(some 5), none, .mov (kc 0)⟩])
 (.seq
 (.ops [⟨(some 10), none, .load 24 (tm 2) (some 2)⟩,
 ⟨(some 11), none, .call 17 [(tm 10)] 27⟩,
 ⟨(some 9), none, .mov (tm 11)⟩,
 ⟨(some 12), none, .extract (tm 9) 0⟩,
 ⟨(some 13), none, .extract (tm 9) 1⟩,
 ⟨(some 14), none, .extract (tm 9) 2⟩,
 ⟨(some 6), none, .mov (tm 12)⟩,
 ⟨(some 7), none, .mov (tm 13)⟩,
 ⟨(some 8), none, .mov (tm 14)⟩])
 (.seq
 (.ops [⟨(some 15), none, .mov (tm 1)⟩,
 ⟨(some 16), none, .mov (tm 8)⟩,
 ⟨(some 17), none, .call 73 [(tm 15), (tm 16)] 26⟩,
 ⟨(some 8), none, .mov (tm 17)⟩])
 (.seq
 (.seq
 (.ops [⟨(some 18), none, .mov (tm 8)⟩,
 ⟨(some 19), none, .bin .neq 26 (tm 18) (kc 0)⟩])
 (.ite (tm 19)
 (.seq
 (.ops [⟨(some 20), none, .mov (tm 8)⟩,
 ⟨(some 4), none, .mov (.const (.string ⟨#[]⟩))⟩,
 ⟨(some 5), none, .mov (tm 20)⟩])
 .ret)
 .skip))
 (.seq
 (.ops [⟨(some 21), none, .faddr 24 (tm 2) 0 0⟩,
 ⟨(some 22), none, .load 3 (tm 21) none⟩,
 ⟨(some 23), none, .mov (tm 1)⟩,
 ⟨(some 24), none, .call 76 [(tm 22), (tm 23)] 9⟩,
 ⟨(some 4), none, .mov (tm 24)⟩,
 ⟨(some 5), none, .mov (kc 0)⟩])
 .ret)))))
theorem fn29 : FnOK Try.prog 29 25 [.tmp 4, .tmp 5] L29 := ⟨Try.f29, Try.func29, by kernel_rfl, Try.ntmps29, by rw [Try.results29], by kernel_rfl⟩
def L31 : LCode :=
 (.seq
 (.ops [⟨(some 2), none, .box 24 (tm 0)⟩,
 ⟨(some 4), none, .mov (.const (.slice none 0 0))⟩,
 ⟨(some 5), none, .mov (kc 0)⟩])
 (.seq
 (.ops [⟨(some 13), none, .load 24 (tm 2) (some 2)⟩,
 ⟨(some 14), none, .call 17 [(tm 13)] 27⟩,
 ⟨(some 12), none, .mov (tm 14)⟩,
 ⟨(some 15), none, .extract (tm 12) 0⟩,
 ⟨(some 16), none, .extract (tm 12) 1⟩,
 ⟨(some 17), none, .extract (tm 12) 2⟩,
 ⟨(some 6), none, .mov (tm 15)⟩,
 ⟨(some 7), none, .mov (tm 16)⟩,
 ⟨(some 8), none, .mov (tm 17)⟩])
 (.seq
 (.seq
 (.ops [⟨(some 18), none, .mov (tm 8)⟩,
 ⟨(some 19), none, .bin .eql 26 (tm 18) (kc 0)⟩,
 ⟨(some 20), none, .mov (tm 19)⟩,
 ⟨(some 21), some (20, true), .mov (tm 1)⟩,
 ⟨(some 22), some (20, true), .len true 9 3 (tm 21)⟩,
 ⟨(some 23), some (20, true), .bin .gtr 3 (tm 22) (kc 160)⟩,
 ⟨(some 24), none, .pick (tm 20) (tm 23) (.const (.bool false))⟩])
 (.ite (tm 24)
 (.ops [⟨(some 8), none, .mov (kc 3)⟩])
 .skip))
 (.seq
 (.seq
 (.ops [⟨(some 25), none, .mov (tm 8)⟩,
 ⟨(some 26), none, .bin .neq 26 (tm 25) (kc 0)⟩])
 (.ite (tm 26)
 (.seq
 (.ops [⟨(some 27), none, .mov (tm 8)⟩,
 ⟨(some 4), none, .mov (.const (.slice none 0 0))⟩,
 ⟨(some 5), none, .mov (tm 27)⟩])
 .ret)
 .skip))
 (.seq
 (.ops [⟨(some 9), none, .mov (.const (.slice none 0 0))⟩])
 (.seq
 (.ops [⟨(some 28), none, .mov (tm 1)⟩,
 ⟨(some 29), none, .call 49 [(tm 28), (.const (.int .u8 10))] 29⟩,
 ⟨(some 10), none, .mov (tm 29)⟩])
 (.seq
 (.seq
 (.ops [⟨(some 11), none, .mov (kc 0)⟩])
 (.block 0
 (.loop
 (.seq
 (.seq
 (.ops [⟨(some 30), none, .mov (tm 11)⟩,
 ⟨(some 31), none, .bin .add 3 (tm 30) (kc 1)⟩,
 ⟨(some 32), none, .mov (tm 10)⟩,
 ⟨(some 33), none, .len false 29 3 (tm 32)⟩,
 ⟨(some 34), none, .bin .lss 3 (tm 31) (tm 33)⟩])
 (.ite (tm 34)
 .skip
 (.exit 0)))
 (.seq
 (.block 1
 (.ops [⟨(some 37), none, .mov (tm 9)⟩,
 ⟨(some 38), none, .mov (tm 10)⟩,
 ⟨(some 39), none, .mov (tm 11)⟩,
 ⟨(some 40), none, .iaddr 29 (tm 38) (tm 39) 1⟩,
 ⟨(some 41), none, .load 9 (tm 40) none⟩,
 ⟨(some 42), none, .call 49 [(tm 41), (.const (.int .u8 32))] 29⟩,
 ⟨(some 43), none, .append 29 29 (tm 37) (tm 42) 9 1 16 [(.string ⟨#[]⟩)]⟩,
 ⟨(some 9), none, .mov (tm 43)⟩]))
 (.ops [⟨(some 35), none, .mov (tm 11)⟩,
 ⟨(some 36), none, .bin .add 3 (tm 35) (kc 1)⟩,
 ⟨(some 11), none, .mov (tm 36)⟩]))))))
 (.seq
 (.seq
 (.ops [⟨(some 44), none, .mov (tm 9)⟩,
 ⟨(some 45), none, .call 48 [(tm 44)] 26⟩,
 ⟨(some 46), none, .bin .neq 26 (tm 45) (kc 0)⟩,
 ⟨(some 47), none, .mov (tm 46)⟩,
 ⟨(some 48), some (47, false), .faddr 24 (tm 2) 0 0⟩,
 ⟨(some 49), some (47, false), .load 3 (tm 48) none⟩,
 ⟨(some 50), some (47, false), .mov (tm 9)⟩,
 ⟨(some 51), some (47, false), .call 76 [(tm 49), (tm 50)] 9⟩,
 ⟨(some 52), some (47, false), .mov (tm 1)⟩,
 ⟨(some 53), some (47, false), .bin .neq 9 (tm 51) (tm 52)⟩,
 ⟨(some 54), none, .pick (tm 47) (.const (.bool true)) (tm 53)⟩])
 (.ite (tm 54)
 (.seq
 (.ops [⟨(some 4), none, .mov (.const (.slice none 0 0))⟩,
 ⟨(some 5), none, .mov (kc 6)⟩])
 .ret)
 .skip))
 (.seq
 (.ops [⟨(some 55), none, .mov (tm 9)⟩,
 ⟨(some 4), none, .mov (tm 55)⟩,
 ⟨(some 5), none, .mov (kc 0)⟩])
 .ret)))))))))
theorem fn31 : FnOK Try.prog 31 56 [.tmp 4, .tmp 5] L31 := ⟨Try.f31, Try.func31, by kernel_rfl, Try.ntmps31, by rw [Try.results31], by kernel_rfl⟩
def L48 : LCode :=
 (.seq
 (.ops [⟨(some 2), none, .mov (kc 0)⟩])
 (.seq
 (.seq
 (.ops [⟨(some 3), none, .mov (tm 0)⟩,
 ⟨(some 4), none, .len false 29 3 (tm 3)⟩,
 ⟨(some 5), none, .bin .gtr 3 (tm 4) (kc 15)⟩])
 (.ite (tm 5)
 (.seq
 (.ops [⟨(some 2), none, .mov (kc 3)⟩])
 .ret)
 .skip))
 (.seq
 (.seq
 (.ops [⟨(some 6), none, .mov (tm 0)⟩,
 ⟨(some 7), none, .call 95 [(tm 6)] 4⟩,
 ⟨(some 8), none, .un .not (tm 7)⟩])
 (.ite (tm 8)
 (.seq
 (.ops [⟨(some 2), none, .mov (kc 6)⟩])
 .ret)
 .skip))
 (.seq
 (.ops [⟨(some 2), none, .mov (kc 0)⟩])
 .ret))))
theorem fn48 : FnOK Try.prog 48 9 [.tmp 2] L48 := ⟨Try.f48, Try.func48, by kernel_rfl, Try.ntmps48, by rw [Try.results48], by kernel_rfl⟩
def L53 : LCode :=
 (.seq
 (.ops [⟨(some 6), none, .mov (.const (.bool false))⟩])
 (.seq
 (.ops [⟨(some 7), none, .mov (tm 0)⟩,
 ⟨(some 8), none, .mov (tm 1)⟩,
 ⟨(some 9), none, .bin .geq 3 (tm 7) (tm 8)⟩,
 ⟨(some 10), none, .mov (tm 9)⟩,
 ⟨(some 11), some (10, true), .mov (tm 0)⟩,
 ⟨(some 12), some (10, true), .mov (tm 2)⟩,
 ⟨(some 13), some (10, true), .bin .leq 3 (tm 11) (tm 12)⟩,
 ⟨(some 14), none, .pick (tm 10) (tm 13) (.const (.bool false))⟩,
 ⟨(some 6), none, .mov (tm 14)⟩])
 .ret))
theorem fn53 : FnOK Try.prog 53 15 [.tmp 6] L53 := ⟨Try.f53, Try.func53, by kernel_rfl, Try.ntmps53, by rw [Try.results53], by kernel_rfl⟩
def L55 : LCode :=
 (.seq
 (.ops [⟨(some 1), none, .box 84 (tm 0)⟩,
 ⟨(some 2), none, .mov (.const (.bool false))⟩])
 (.seq
 (.ops [⟨(some 3), none, .faddr 84 (tm 1) 0 0⟩,
 ⟨(some 4), none, .load 29 (tm 3) none⟩,
 ⟨(some 5), none, .len false 29 3 (tm 4)⟩,
 ⟨(some 6), none, .bin .eql 3 (tm 5) (kc 0)⟩,
 ⟨(some 2), none, .mov (tm 6)⟩])
 .ret))
theorem fn55 : FnOK Try.prog 55 7 [.tmp 2] L55 := ⟨Try.f55, Try.func55, by kernel_rfl, Try.ntmps55, by rw [Try.results55], by kernel_rfl⟩
def L62 : LCode :=
 (.seq
 (.ops [⟨(some 4), none, .mov (kc 0)⟩])
 (.seq
 (.ops [⟨(some 5), none, .mov (kc 0)⟩])
 (.seq
 (.seq
 (.ops [⟨(some 6), none, .mov (tm 1)⟩,
 ⟨(some 7), none, .mov (tm 0)⟩,
 ⟨(some 8), none, .call 100 [(tm 6), (tm 7)] 3⟩,
 ⟨(some 9), none, .bin .geq 3 (tm 8) (kc 0)⟩])
 (.ite (tm 9)
 (.ops [⟨(some 5), none, .mov (kc 5)⟩])
 .skip))
 (.seq
 (.seq
 (.ops [⟨(some 10), none, .mov (tm 0)⟩,
 ⟨(some 11), none, .call 101 [(tm 10)] 4⟩,
 ⟨(some 12), none, .un .not (tm 11)⟩])
 (.ite (tm 12)
 (.ops [⟨(some 5), none, .mov (kc 6)⟩])
 .skip))
 (.seq
 (.ops [⟨(some 13), none, .mov (tm 5)⟩,
 ⟨(some 4), none, .mov (tm 13)⟩])
 .ret)))))
theorem fn62 : FnOK Try.prog 62 14 [.tmp 4] L62 := ⟨Try.f62, Try.func62, by kernel_rfl, Try.ntmps62, by rw [Try.results62], by kernel_rfl⟩
def L63 : LCode :=
 (.seq
 (.ops [⟨(some 1), none, .box 84 (tm 0)⟩,
 ⟨(some 2), none, .mov (kc 0)⟩])
 (.seq
 (.seq
 (.ops [⟨(some 3), none, .faddr 84 (tm 1) 0 0⟩,
 ⟨(some 4), none, .load 29 (tm 3) none⟩,
 ⟨(some 5), none, .len false 29 3 (tm 4)⟩,
 ⟨(some 6), none, .bin .gtr 3 (tm 5) (kc 3)⟩])
 (.ite (tm 6)
 (.seq
 (.ops [⟨(some 2), none, .mov (kc 3)⟩])
 .ret)
 .skip))
 (.seq
 (.seq
 (.ops [⟨(some 7), none, .faddr 84 (tm 1) 0 0⟩,
 ⟨(some 8), none, .load 29 (tm 7) none⟩,
 ⟨(some 9), none, .call 95 [(tm 8)] 4⟩,
 ⟨(some 10), none, .un .not (tm 9)⟩])
 (.ite (tm 10)
 (.seq
 (.ops [⟨(some 2), none, .mov (kc 6)⟩])
 .ret)
 .skip))
 (.seq
 (.seq
 (.ops [⟨(some 11), none, .load 84 (tm 1) (some 3)⟩,
 ⟨(some 12), none, .call 55 [(tm 11)] 4⟩,
 ⟨(some 13), none, .un .not (tm 12)⟩])
 (.ite (tm 13)
 (.seq
 (.seq
 (.ops [⟨(some 14), none, .faddr 84 (tm 1) 1 1⟩,
 ⟨(some 15), none, .load 82 (tm 14) (some 2)⟩,
 ⟨(some 16), none, .build 82 [] [(.int .i64 0), (.int .i64 0)] []⟩,
 ⟨(some 17), none, .eqT true 82 (tm 15) (tm 16)⟩])
 (.ite (tm 17)
 (.seq
 (.ops [⟨(some 2), none, .mov (kc 2)⟩])
 .ret)
 .skip))
 (.seq
 (.ops [⟨(some 2), none, .mov (kc 0)⟩])
 .ret))
 .skip))
 (.seq
 (.seq
 (.ops [⟨(some 18), none, .faddr 84 (tm 1) 1 1⟩,
 ⟨(some 19), none, .faddr 82 (tm 18) 0 0⟩,
 ⟨(some 20), none, .load 3 (tm 19) none⟩,
 ⟨(some 21), none, .call 53 [(tm 20), (kc 0), (kc 3)] 4⟩,
 ⟨(some 22), none, .un .not (tm 21)⟩,
 ⟨(some 23), none, .mov (tm 22)⟩,
 ⟨(some 24), some (23, false), .faddr 84 (tm 1) 1 1⟩,
 ⟨(some 25), some (23, false), .faddr 82 (tm 24) 1 1⟩,
 ⟨(some 26), some (23, false), .load 3 (tm 25) none⟩,
 ⟨(some 27), some (23, false), .call 53 [(tm 26), (kc 1), (kc 3)] 4⟩,
 ⟨(some 28), some (23, false), .un .not (tm 27)⟩,
 ⟨(some 29), none, .pick (tm 23) (.const (.bool true)) (tm 28)⟩])
 (.ite (tm 29)
 (.seq
 (.ops [⟨(some 2), none, .mov (kc 7)⟩])
 .ret)
 .skip))
 (.seq
 (.seq
 (.ops [⟨(some 30), none, .faddr 84 (tm 1) 1 1⟩,
 ⟨(some 31), none, .faddr 82 (tm 30) 0 0⟩,
 ⟨(some 32), none, .load 3 (tm 31) none⟩,
 ⟨(some 33), none, .faddr 84 (tm 1) 1 1⟩,
 ⟨(some 34), none, .faddr 82 (tm 33) 1 1⟩,
 ⟨(some 35), none, .load 3 (tm 34) none⟩,
 ⟨(some 36), none, .bin .gtr 3 (tm 32) (tm 35)⟩])
 (.ite (tm 36)
 (.seq
 (.ops [⟨(some 2), none, .mov (kc 2)⟩])
 .ret)
 .skip))
 (.seq
 (.ops [⟨(some 2), none, .mov (kc 0)⟩])
 .ret)))))))
theorem fn63 : FnOK Try.prog 63 37 [.tmp 2] L63 := ⟨Try.f63, Try.func63, by kernel_rfl, Try.ntmps63, by rw [Try.results63], by kernel_rfl⟩
def L73 : LCode :=
 (.seq
 (.ops [⟨(some 4), none, .mov (kc 0)⟩])
 (.seq
 (.seq
 (.ops [⟨(some 5), none, .mov (tm 1)⟩,
 ⟨(some 6), none, .bin .eql 26 (tm 5) (kc 0)⟩])
 (.ite (tm 6)
 (.ops [⟨(some 7), none, .mov (tm 0)⟩,
 ⟨(some 8), none, .call 48 [(tm 7)] 26⟩,
 ⟨(some 1), none, .mov (tm 8)⟩])
 .skip))
 (.seq
 (.ops [⟨(some 9), none, .mov (tm 1)⟩,
 ⟨(some 4), none, .mov (tm 9)⟩])
 .ret)))
theorem fn73 : FnOK Try.prog 73 10 [.tmp 4] L73 := ⟨Try.f73, Try.func73, by kernel_rfl, Try.ntmps73, by rw [Try.results73], by kernel_rfl⟩
def L76 : LCode :=
 (.seq
 (.ops [⟨(some 4), none, .mov (.const (.string ⟨#[]⟩))⟩])
 (.seq
 (.ops [⟨(some 5), none, .mov (.const (.string ⟨#[]⟩))⟩,
 ⟨(some 6), none, .mov (.const (.string ⟨#[]⟩))⟩])
 (.seq
 (.seq
 (.ops [⟨(some 7), none, .mov (kc 0)⟩])
 (.block 0
 (.loop
 (.seq
 (.seq
 (.ops [⟨(some 8), none, .mov (tm 7)⟩,
 ⟨(some 9), none, .mov (tm 1)⟩,
 ⟨(some 10), none, .len false 29 3 (tm 9)⟩,
 ⟨(some 11), none, .bin .lss 3 (tm 8) (tm 10)⟩])
 (.ite (tm 11)
 .skip
 (.exit 0)))
 (.seq
 (.block 1
 (.block 2
 (.seq
 (.ops [⟨(some 23), none, .mov (tm 7)⟩,
 ⟨(some 24), none, .bin .eql 3 (tm 23) (kc 0)⟩,
 ⟨(some 22), none, .mov (tm 24)⟩])
 (.ite (tm 22)
 (.ops [⟨(some 25), none, .mov (tm 1)⟩,
 ⟨(some 26), none, .mov (tm 7)⟩,
 ⟨(some 27), none, .iaddr 29 (tm 25) (tm 26) 1⟩,
 ⟨(some 28), none, .load 9 (tm 27) none⟩,
 ⟨(some 6), none, .mov (tm 28)⟩])
 (.seq
 (.ops [⟨(some 30), none, .mov (tm 6)⟩,
 ⟨(some 31), none, .len true 9 3 (tm 30)⟩,
 ⟨(some 32), none, .bin .add 3 (tm 31) (kc 1)⟩,
 ⟨(some 33), none, .mov (tm 1)⟩,
 ⟨(some 34), none, .mov (tm 7)⟩,
 ⟨(some 35), none, .iaddr 29 (tm 33) (tm 34) 1⟩,
 ⟨(some 36), none, .load 9 (tm 35) none⟩,
 ⟨(some 37), none, .len true 9 3 (tm 36)⟩,
 ⟨(some 38), none, .bin .add 3 (tm 32) (tm 37)⟩,
 ⟨(some 39), none, .mov (tm 0)⟩,
 ⟨(some 40), none, .bin .leq 3 (tm 38) (tm 39)⟩,
 ⟨(some 29), none, .mov (tm 40)⟩])
 (.ite (tm 29)
 (.ops [⟨(some 41), none, .mov (tm 6)⟩,
 ⟨(some 42), none, .bin .add 9 (tm 41) (.const (.string ⟨#[32]⟩))⟩,
 ⟨(some 43), none, .mov (tm 1)⟩,
 ⟨(some 44), none, .mov (tm 7)⟩,
 ⟨(some 45), none, .iaddr 29 (tm 43) (tm 44) 1⟩,
 ⟨(some 46), none, .load 9 (tm 45) none⟩,
 ⟨(some 47), none, .bin .add 9 (tm 42) (tm 46)⟩,
 ⟨(some 6), none, .mov (tm 47)⟩])
 (.dops [(⟨(some 14), none, .mov (tm 5)⟩, []),
 (⟨(some 15), none, .mov (tm 6)⟩, []),
 (⟨(some 16), none, .bin .add 9 (tm 14) (tm 15)⟩, [0, 1]),
 (⟨(some 17), none, .bin .add 9 (tm 16) (.const (.string ⟨#[10]⟩))⟩, [2]),
 (⟨(some 18), none, .mov (tm 1)⟩, []),
 (⟨(some 19), none, .mov (tm 7)⟩, []),
 (⟨(some 20), none, .iaddr 29 (tm 18) (tm 19) 1⟩, [4, 5]),
 (⟨(some 21), none, .load 9 (tm 20) none⟩, [6]),
 (⟨(some 5), none, .mov (tm 17)⟩, [3, 0, 1, 2, 3]),
 (⟨(some 6), none, .mov (tm 21)⟩, [7, 8, 0, 1, 2, 3, 4, 5, 6, 7, 8])])))))))
 (.ops [⟨(some 12), none, .mov (tm 7)⟩,
 ⟨(some 13), none, .bin .add 3 (tm 12) (kc 1)⟩,
 ⟨(some 7), none, .mov (tm 13)⟩]))))))
 (.seq
 (.seq
 (.ops [⟨(some 48), none, .mov (tm 1)⟩,
 ⟨(some 49), none, .len false 29 3 (tm 48)⟩,
 ⟨(some 50), none, .bin .gtr 3 (tm 49) (kc 0)⟩])
 (.ite (tm 50)
 (.ops [⟨(some 51), none, .mov (tm 5)⟩,
 ⟨(some 52), none, .mov (tm 6)⟩,
 ⟨(some 53), none, .bin .add 9 (tm 51) (tm 52)⟩,
 ⟨(some 54), none, .bin .add 9 (tm 53) (.const (.string ⟨#[10]⟩))⟩,
 ⟨(some 5), none, .mov (tm 54)⟩])
 .skip))
 (.seq
 (.ops [⟨(some 55), none, .mov (tm 5)⟩,
 ⟨(some 4), none, .mov (tm 55)⟩])
 .ret)))))
theorem fn76 : FnOK Try.prog 76 56 [.tmp 4] L76 := ⟨Try.f76, Try.func76, by kernel_rfl, Try.ntmps76, by rw [Try.results76], by kernel_rfl⟩
def L95 : LCode :=
 (.seq
 (.ops [⟨(some 2), none, .mov (.const (.bool false))⟩])
 (.seq
 (.ops [⟨(some 3), none, .mov (.const (.bool true))⟩])
 (.seq
 (.seq
 (.ops [⟨(some 4), none, .mov (kc 0)⟩])
 (.block 0
 (.loop
 (.seq
 (.seq
 (.ops [⟨(some 5), none, .mov (tm 4)⟩,
 ⟨(some 6), none, .mov (tm 0)⟩,
 ⟨(some 7), none, .len false 29 3 (tm 6)⟩,
 ⟨(some 8), none, .bin .lss 3 (tm 5) (tm 7)⟩])
 (.ite (tm 8)
 .skip
 (.exit 0)))
 (.seq
 (.block 1
 (.ops [⟨(some 11), none, .mov (tm 3)⟩,
 ⟨(some 12), none, .mov (tm 11)⟩,
 ⟨(some 13), some (12, true), .mov (tm 0)⟩,
 ⟨(some 14), some (12, true), .mov (tm 4)⟩,
 ⟨(some 15), some (12, true), .iaddr 29 (tm 13) (tm 14) 1⟩,
 ⟨(some 16), some (12, true), .load 9 (tm 15) none⟩,
 ⟨(some 17), some (12, true), .call 123 [(tm 16)] 4⟩,
 ⟨(some 18), none, .pick (tm 12) (tm 17) (.const (.bool false))⟩,
 ⟨(some 3), none, .mov (tm 18)⟩]))
 (.ops [⟨(some 9), none, .mov (tm 4)⟩,
 ⟨(some 10), none, .bin .add 3 (tm 9) (kc 1)⟩,
 ⟨(some 4), none, .mov (tm 10)⟩]))))))
 (.seq
 (.ops [⟨(some 19), none, .mov (tm 3)⟩,
 ⟨(some 2), none, .mov (tm 19)⟩])
 .ret))))
theorem fn95 : FnOK Try.prog 95 20 [.tmp 2] L95 := ⟨Try.f95, Try.func95, by kernel_rfl, Try.ntmps95, by rw [Try.results95], by kernel_rfl⟩
def L100 : LCode :=
 (.seq
 (.ops [⟨(some 4), none, .mov (kc 0)⟩])
 (.seq
 (.ops [⟨(some 5), none, .mov (kc 0)⟩])
 (.seq
 (.block 0
 (.loop
 (.seq
 (.seq
 (.ops [⟨(some 6), none, .mov (tm 5)⟩,
 ⟨(some 7), none, .mov (tm 0)⟩,
 ⟨(some 8), none, .len false 29 3 (tm 7)⟩,
 ⟨(some 9), none, .bin .lss 3 (tm 6) (tm 8)⟩,
 ⟨(some 10), none, .mov (tm 9)⟩,
 ⟨(some 11), some (10, true), .mov (tm 0)⟩,
 ⟨(some 12), some (10, true), .mov (tm 5)⟩,
 ⟨(some 13), some (10, true), .iaddr 29 (tm 11) (tm 12) 1⟩,
 ⟨(some 14), some (10, true), .load 9 (tm 13) none⟩,
 ⟨(some 15), some (10, true), .mov (tm 1)⟩,
 ⟨(some 16), some (10, true), .bin .neq 9 (tm 14) (tm 15)⟩,
 ⟨(some 17), none, .pick (tm 10) (tm 16) (.const (.bool false))⟩])
 (.ite (tm 17)
 .skip
 (.exit 0)))
 (.block 1
 (.ops [⟨(some 18), none, .mov (tm 5)⟩,
 ⟨(some 19), none, .bin .add 3 (tm 18) (kc 1)⟩,
 ⟨(some 5), none, .mov (tm 19)⟩])))))
 (.seq
 (.seq
 (.ops [⟨(some 20), none, .mov (tm 5)⟩,
 ⟨(some 21), none, .mov (tm 0)⟩,
 ⟨(some 22), none, .len false 29 3 (tm 21)⟩,
 ⟨(some 23), none, .bin .eql 3 (tm 20) (tm 22)⟩])
 (.ite (tm 23)
 (.seq
 (.ops [⟨(some 4), none, .mov (kc (-1))⟩])
 .ret)
 .skip))
 (.seq
 (.ops [⟨(some 24), none, .mov (tm 5)⟩,
 ⟨(some 4), none, .mov (tm 24)⟩])
 .ret)))))
theorem fn100 : FnOK Try.prog 100 25 [.tmp 4] L100 := ⟨Try.f100, Try.func100, by kernel_rfl, Try.ntmps100, by rw [Try.results100], by kernel_rfl⟩
def L101 : LCode :=
 (.seq
 (.ops [⟨(some 2), none, .mov (.const (.bool false))⟩])
 (.seq
 (.ops [⟨(some 6), none, .mov (tm 0)⟩,
 ⟨(some 7), none, .len true 9 3 (tm 6)⟩,
 ⟨(some 8), none, .call 53 [(tm 7), (kc 1), (kc 16)] 4⟩,
 ⟨(some 3), none, .mov (tm 8)⟩])
 (.seq
 (.seq
 (.ops [⟨(some 4), none, .mov (kc 0)⟩])
 (.block 0
 (.loop
 (.seq
 (.seq
 (.ops [⟨(some 9), none, .mov (tm 4)⟩,
 ⟨(some 10), none, .mov (tm 0)⟩,
 ⟨(some 11), none, .len true 9 3 (tm 10)⟩,
 ⟨(some 12), none, .bin .lss 3 (tm 9) (tm 11)⟩])
 (.ite (tm 12)
 .skip
 (.exit 0)))
 (.seq
 (.block 1
 (.seq
 (.ops [⟨(some 15), none, .mov (tm 4)⟩,
 ⟨(some 16), none, .bin .gtr 3 (tm 15) (kc 0)⟩,
 ⟨(some 17), none, .mov (tm 16)⟩,
 ⟨(some 18), some (17, true), .mov (tm 0)⟩,
 ⟨(some 19), some (17, true), .mov (tm 4)⟩,
 ⟨(some 20), some (17, true), .indexS 9 (tm 18) (tm 19)⟩,
 ⟨(some 21), some (17, true), .bin .eql 5 (tm 20) (.const (.int .u8 46))⟩,
 ⟨(some 22), some (17, true), .mov (tm 21)⟩,
 ⟨(some 23), some (22, false), .mov (tm 0)⟩,
 ⟨(some 24), some (22, false), .mov (tm 4)⟩,
 ⟨(some 25), some (22, false), .indexS 9 (tm 23) (tm 24)⟩,
 ⟨(some 26), some (22, false), .toInt .i64 5 3 (tm 25)⟩,
 ⟨(some 27), some (22, false), .call 53 [(tm 26), (kc 48), (kc 57)] 4⟩,
 ⟨(some 28), some (17, true), .pick (tm 22) (.const (.bool true)) (tm 27)⟩,
 ⟨(some 29), none, .pick (tm 17) (tm 28) (.const (.bool false))⟩,
 ⟨(some 5), none, .mov (tm 29)⟩])
 (.ops [⟨(some 30), none, .mov (tm 3)⟩,
 ⟨(some 31), none, .mov (tm 30)⟩,
 ⟨(some 32), some (31, true), .mov (tm 0)⟩,
 ⟨(some 33), some (31, true), .mov (tm 4)⟩,
 ⟨(some 34), some (31, true), .indexS 9 (tm 32) (tm 33)⟩,
 ⟨(some 35), some (31, true), .toInt .i64 5 3 (tm 34)⟩,
 ⟨(some 36), some (31, true), .call 53 [(tm 35), (kc 97), (kc 122)] 4⟩,
 ⟨(some 37), some (31, true), .mov (tm 36)⟩,
 ⟨(some 38), some (37, false), .mov (tm 5)⟩,
 ⟨(some 39), some (31, true), .pick (tm 37) (.const (.bool true)) (tm 38)⟩,
 ⟨(some 40), none, .pick (tm 31) (tm 39) (.const (.bool false))⟩,
 ⟨(some 3), none, .mov (tm 40)⟩])))
 (.ops [⟨(some 13), none, .mov (tm 4)⟩,
 ⟨(some 14), none, .bin .add 3 (tm 13) (kc 1)⟩,
 ⟨(some 4), none, .mov (tm 14)⟩]))))))
 (.seq
 (.ops [⟨(some 41), none, .mov (tm 3)⟩,
 ⟨(some 2), none, .mov (tm 41)⟩])
 .ret))))
theorem fn101 : FnOK Try.prog 101 42 [.tmp 2] L101 := ⟨Try.f101, Try.func101, by kernel_rfl, Try.ntmps101, by rw [Try.results101], by kernel_rfl⟩
def L123 : LCode :=
 (.seq
 (.ops [⟨(some 2), none, .mov (.const (.bool false))⟩])
 (.seq
 (.seq
 (.ops [⟨(some 4), none, .mov (tm 0)⟩,
 ⟨(some 5), none, .len true 9 3 (tm 4)⟩,
 ⟨(some 6), none, .call 53 [(tm 5), (kc 1), (kc 8)] 4⟩,
 ⟨(some 7), none, .un .not (tm 6)⟩])
 (.ite (tm 7)
 (.seq
 (.ops [⟨(some 2), none, .mov (.const (.bool false))⟩])
 .ret)
 .skip))
 (.seq
 (.seq
 (.ops [⟨(some 3), none, .mov (kc 0)⟩])
 (.block 0
 (.loop
 (.seq
 (.seq
 (.ops [⟨(some 8), none, .mov (tm 3)⟩,
 ⟨(some 9), none, .mov (tm 0)⟩,
 ⟨(some 10), none, .len true 9 3 (tm 9)⟩,
 ⟨(some 11), none, .bin .lss 3 (tm 8) (tm 10)⟩])
 (.ite (tm 11)
 .skip
 (.exit 0)))
 (.seq
 (.block 1
 (.seq
 (.ops [⟨(some 14), none, .mov (tm 0)⟩,
 ⟨(some 15), none, .mov (tm 3)⟩,
 ⟨(some 16), none, .indexS 9 (tm 14) (tm 15)⟩,
 ⟨(some 17), none, .bin .lss 5 (tm 16) (.const (.int .u8 97))⟩,
 ⟨(some 18), none, .mov (tm 17)⟩,
 ⟨(some 19), some (18, false), .mov (tm 0)⟩,
 ⟨(some 20), some (18, false), .mov (tm 3)⟩,
 ⟨(some 21), some (18, false), .indexS 9 (tm 19) (tm 20)⟩,
 ⟨(some 22), some (18, false), .bin .gtr 5 (tm 21) (.const (.int .u8 122))⟩,
 ⟨(some 23), none, .pick (tm 18) (.const (.bool true)) (tm 22)⟩])
 (.ite (tm 23)
 (.seq
 (.ops [⟨(some 2), none, .mov (.const (.bool false))⟩])
 .ret)
 .skip)))
 (.ops [⟨(some 12), none, .mov (tm 3)⟩,
 ⟨(some 13), none, .bin .add 3 (tm 12) (kc 1)⟩,
 ⟨(some 3), none, .mov (tm 13)⟩]))))))
 (.seq
 (.ops [⟨(some 2), none, .mov (.const (.bool true))⟩])
 .ret))))
theorem fn123 : FnOK Try.prog 123 24 [.tmp 2] L123 := ⟨Try.f123, Try.func123, by kernel_rfl, Try.ntmps123, by rw [Try.results123], by kernel_rfl⟩
end Go.Px

namespace Go.Px
open Go.Proofs
theorem in_ev (n lo hi : Int) : Ev Try.prog 53 [I n, I lo, I hi] (B (decide (lo ≤ n) && decide (n ≤ hi))) := by
  refine Ev.intro fn53 ?_
  refine LWp.sx (gs := []) (hs := []) rfl trivial ?_
  by_cases h : lo ≤ n
  · refine LWp.sx (gs := [(10, true)]) (hs := []) rfl (by simp [h]) ?_
    refine LWp.ret (retT (.inr rfl) (.one (.tmp ?_ rfl)))
    show B _ = B _
    simp [h]
  · refine LWp.sx (gs := [(10, false)]) (hs := []) rfl (by simp [h]) ?_
    refine LWp.ret (retT (.inr rfl) (.one (.tmp ?_ rfl)))
    show B _ = B _
    simp [h]
end Go.Px

namespace Go.Px
open Go.Proofs
theorem inB_not (n lo hi : Int) : (!(decide (lo ≤ n) && decide (n ≤ hi))) = beyondB lo hi [n] := by
  rw [Bool.eq_iff_iff]; simp [beyondB]
theorem rname_ev (l : List UInt8) (hl : l.length ≤ 9223372036854775807) : Ev Try.prog 101 [Str l] (B (nameB l)) := by
  refine Ev.intro fn101 ?_
  refine LWp.sx (gs := []) (hs := []) rfl trivial ?_
  refine LWp.sx (gs := []) (hs := [.ret (B (decide (1 ≤ (l.length : Int)) && decide ((l.length : Int) ≤ 16)))]) rfl ⟨in_ev _ 1 16, trivial⟩ ?_
  refine LWp.seq (LWp.seq ?_)
  refine LWp.x (gs := []) (hs := []) rfl trivial ?_
  generalize hF : (decide (1 ≤ (l.length : Int)) && decide ((l.length : Int) ≤ 16)) = F
  have hnb : nameB l = (allN l 0 && F) := by
    unfold nameB
    rw [← hF]
    congr 1
    rw [Bool.eq_iff_iff]; simp; omega
  refine LWp.blockT (fun _ : Unit => True) (fun _ => el [(3, B (nameB l))]) (fun _ => []) (fun _ => []) ?_ ?_
  · refine LWp.loopN (X := Nat × Bool) (fun x => x.1 ≤ l.length ∧ nameB l = (allN (l.drop x.1) x.1 && x.2)) (fun x => el [(0, Str l), (3, B x.2), (4, I x.1)]) (fun _ => []) (fun _ => []) (fun x => l.length - x.1) (0, F) ⟨by simp, hnb⟩
      (Ent.el ⟨rfl, rfl, rfl, trivial⟩) ?_
    rintro ⟨k, f⟩ ⟨hk, hi⟩
    simp only at hk hi ⊢
    refine LWp.seq (LWp.seq ?_)
    refine LWp.x (gs := []) (hs := []) rfl trivial ?_
    refine LWp.ite rfl (fun hc => ?_) (fun hc => ?_)
    · simp only [decide_eq_true_eq] at hc
      have hc' : k < l.length := by have : ((k : Int) < (l.length : Int)) := hc; omega
      obtain ⟨c, hx⟩ := ex_get hc'
      rw [drop_cons hx, allN] at hi
      have hby : (⟨l.toArray⟩ : ByteArray).data.toList[((k : Nat) : Int).toNat]? = some c := by simpa using hx
      have hco : ∀ m : Int, IntKind.i64.wrap ((c.toNat : Nat) : Int) = c.toNat := by
        intro _
        exact i64_wrap (by omega) (by have := c.toNat_lt; omega)
      refine LWp.skip ?_
      refine LWp.blockX (fun _ : Unit => True) (fun _ => el [(0, Str l), (3, B (f && okc k c.toNat)), (4, I k)]) (fun _ => []) (fun _ => []) ?_ ?_
      · refine LWp.cutX (fun _ : Unit => True) (fun _ => el [(0, Str l), (3, B f), (4, I k), (5, B (decide (0 < k) && (c.toNat == 46 || (decide (48 ≤ c.toNat) && decide (c.toNat ≤ 57)))))]) (fun _ => []) (fun _ => []) ?_ ?_
        · by_cases h0 : 0 < k
          · by_cases h1 : c.toNat = 46
            · refine LWp.x (gs := [(17, true), (22, true)]) (hs := [.byte c]) rfl (by simp [h0, h1, hx]) ?_
              exact ⟨(), trivial, Ent.el ⟨rfl, rfl, rfl, by show B _ = B _; simp [h0, h1], trivial⟩⟩
            · have h1' : ¬ ((c.toNat : Int) = 46) := by omega
              refine LWp.x (gs := [(17, true), (22, false)]) (hs := [.byte c, .byte c, .ret (B (decide ((48 : Int) ≤ c.toNat) && decide ((c.toNat : Int) ≤ 57)))]) rfl (by simp [h0, h1', hx]; exact ⟨hco 0, in_ev _ 48 57⟩) ?_
              refine ⟨(), trivial, Ent.el ⟨rfl, rfl, rfl, ?_, trivial⟩⟩
              show B _ = B _
              have e : (decide ((48 : Int) ≤ c.toNat) && decide ((c.toNat : Int) ≤ 57)) = (decide (48 ≤ c.toNat) && decide (c.toNat ≤ 57)) := by rw [Bool.eq_iff_iff]; simp; omega
              rw [e]; simp [h0, h1]
          · have h0' : k = 0 := by omega
            subst h0'
            refine LWp.x (gs := [(17, false)]) (hs := []) rfl (by simp) ?_
            exact ⟨(), trivial, Ent.el ⟨rfl, rfl, rfl, by show B _ = B _; simp, trivial⟩⟩
        intro _ _
        generalize hg : (decide (0 < k) && (c.toNat == 46 || (decide (48 ≤ c.toNat) && decide (c.toNat ≤ 57)))) = g
        have hok : okc k c.toNat = ((decide (97 ≤ c.toNat) && decide (c.toNat ≤ 122)) || g) := by rw [← hg]; rfl
        cases f with
        | false =>
          refine LWp.x (gs := [(31, false)]) (hs := []) rfl (by simp) ?_
          exact ⟨(), trivial, Ent.el ⟨rfl, by show B _ = B _; simp, rfl, trivial⟩⟩
        | true =>
          have e : (decide ((97 : Int) ≤ c.toNat) && decide ((c.toNat : Int) ≤ 122)) = (decide (97 ≤ c.toNat) && decide (c.toNat ≤ 122)) := by rw [Bool.eq_iff_iff]; simp; omega
          rw [← e] at hok
          generalize hq : (decide ((97 : Int) ≤ c.toNat) && decide ((c.toNat : Int) ≤ 122)) = q at hok
          have hin : Ev Try.prog 53 [I c.toNat, I 97, I 122] (B q) := by rw [← hq]; exact in_ev _ 97 122
          cases q with
          | true =>
            refine LWp.x (gs := [(31, true), (37, true)]) (hs := [.byte c, .ret (B true)]) rfl (by simp [hx]; exact ⟨hco 0, hin⟩) ?_
            exact ⟨(), trivial, Ent.el ⟨rfl, by show B _ = B _; simp [hok], rfl, trivial⟩⟩
          | false =>
            refine LWp.x (gs := [(31, true), (37, false)]) (hs := [.byte c, .ret (B false)]) rfl (by simp [hx]; exact ⟨hco 0, hin⟩) ?_
            exact ⟨(), trivial, Ent.el ⟨rfl, by show B _ = B _; simp [hok], rfl, trivial⟩⟩
      intro _ _
      refine LWp.x (gs := []) (hs := []) rfl ⟨by omega, trivial⟩ ?_
      refine ⟨(k + 1, f && okc k c.toNat), ⟨hc', ?_⟩, by simp only; omega, Ent.el ⟨rfl, rfl, rfl, trivial⟩⟩
      rw [hi]
      cases f <;> cases okc k c.toNat <;> simp
    · simp only [decide_eq_false_iff_not] at hc
      have hc' : ¬ k < l.length := by have : ¬ ((k : Int) < (l.length : Int)) := hc; omega
      have hf : nameB l = f := by rw [hi, drop_nil hc']; simp [allN]
      exact LWp.exit ⟨(), trivial, Ent.el ⟨by rw [hf]; rfl, trivial⟩⟩
  · intro _ _
    refine LWp.sx (gs := []) (hs := []) rfl trivial ?_
    refine LWp.ret (retT (.inr rfl) (.one (.tmp ?_ rfl)))
    rfl
theorem where_ev (l : List (List UInt8)) (s : List UInt8) : Ev Try.prog 100 [strs l, Str s] (I (idxF (fun x => x == s) l 0)) := by
  refine Ev.intro fn100 ?_
  refine LWp.slLen 0 rfl fun ha => ?_
  simp only [List.length_map] at ha
  refine LWp.sx (gs := []) (hs := []) rfl trivial ?_
  refine LWp.sx (gs := []) (hs := []) rfl trivial ?_
  refine LWp.blockX (fun k : Nat => k ≤ l.length ∧ idxF (fun x => x == s) l 0 = if k = l.length then -1 else (k : Int)) (fun k => el [(0, strs l), (5, I k)]) (fun _ => []) (fun _ => []) ?_ ?_
  · refine LWp.loopN (fun k : Nat => k ≤ l.length ∧ idxF (fun x => x == s) l 0 = idxF (fun x => x == s) (l.drop k) k) (fun k => el [(0, strs l), (1, Str s), (5, I k)]) (fun _ => []) (fun _ => []) (fun k => l.length - k) 0 ⟨by omega, rfl⟩
      (Ent.el ⟨rfl, rfl, rfl, trivial⟩) ?_
    rintro k ⟨hk, hi⟩
    refine LWp.seq (LWp.seq ?_)
    by_cases hc : k < l.length
    · obtain ⟨x, hx⟩ := ex_get hc
      rw [drop_cons hx, idxF] at hi
      refine LWp.x (gs := [(10, true)]) (hs := [.cells [Str x]]) rfl (by simp [hc, (List.getElem?_eq_some_iff.1 hx).2]) ?_
      refine LWp.ite rfl (fun hb => ?_) (fun hb => ?_)
      · have hne : ¬ ((x == s) = true) := by
          have hb : (!((⟨x.toArray⟩ : ByteArray).toList == (⟨s.toArray⟩ : ByteArray).toList)) = true := hb
          intro h
          rw [eq_of_beq h] at hb
          simp at hb
        rw [if_neg hne] at hi
        refine LWp.skip (LWp.block ?_)
        refine LWp.x (gs := []) (hs := []) rfl ⟨by omega, trivial⟩ ?_
        exact ⟨k + 1, ⟨hc, hi⟩, by omega, Ent.el ⟨rfl, rfl, rfl, trivial⟩⟩
      · have heq : (x == s) = true := by
          have hb : (!((⟨x.toArray⟩ : ByteArray).toList == (⟨s.toArray⟩ : ByteArray).toList)) = false := hb
          simp at hb
          simpa using hb
        rw [if_pos heq] at hi
        exact LWp.exit ⟨k, ⟨hk, by rw [hi, if_neg (by omega)]⟩, Ent.el ⟨rfl, rfl, trivial⟩⟩
    · rw [drop_nil hc] at hi
      refine LWp.x (gs := [(10, false)]) (hs := []) rfl (by simp [hc]) ?_
      refine LWp.ite (b := false) rfl (fun hb => by cases hb) (fun hb => ?_)
      exact LWp.exit ⟨k, ⟨hk, by rw [hi, if_pos (by omega)]; rfl⟩, Ent.el ⟨rfl, rfl, trivial⟩⟩
  · rintro k ⟨hk, hi⟩
    refine LWp.seq (LWp.seq ?_)
    refine LWp.x (gs := []) (hs := []) rfl trivial ?_
    refine LWp.ite rfl (fun hb => ?_) (fun hb => ?_)
    · simp only [List.length_map, beq_iff_eq, Int.natCast_inj] at hb
      refine LWp.sx (gs := []) (hs := []) rfl trivial ?_
      refine LWp.ret (retT (.inr rfl) (.one (.tmp ?_ rfl)))
      rw [hi, if_pos hb]; rfl
    · simp only [List.length_map, beq_eq_false_iff_ne, ne_eq, Int.natCast_inj] at hb
      refine LWp.skip ?_
      refine LWp.sx (gs := []) (hs := []) rfl trivial ?_
      refine LWp.ret (retT (.inr rfl) (.one (.tmp ?_ rfl)))
      rw [hi, if_neg hb]; rfl
def freshE (s : List UInt8) (l : List (List UInt8)) : Int := if nameB s = true then (if l.any (fun x => x == s) = true then 5 else 0) else 6
theorem fresh_ev (s : List UInt8) (hl : s.length ≤ 9223372036854775807) (l : List (List UInt8)) : Ev Try.prog 62 [Str s, strs l] (I (freshE s l)) := by
  refine Ev.intro fn62 ?_
  refine LWp.sx (gs := []) (hs := []) rfl trivial ?_
  refine LWp.sx (gs := []) (hs := []) rfl trivial ?_
  refine LWp.cutX (fun _ : Unit => True) (fun _ => el [(0, Str s), (5, I (if l.any (fun x => x == s) = true then 5 else 0))]) (fun _ => []) (fun _ => []) ?_ ?_
  · refine LWp.sx (gs := []) (hs := [.ret (I (idxF (fun x => x == s) l 0))]) rfl ⟨where_ev l s, trivial⟩ ?_
    have hg := idxF_ge (fun x => x == s) l 0 (by omega)
    refine LWp.ite rfl (fun hb => ?_) (fun hb => ?_)
    · rw [hg] at hb
      refine LWp.x (gs := []) (hs := []) rfl trivial ?_
      exact ⟨(), trivial, Ent.el ⟨rfl, by rw [hb]; rfl, trivial⟩⟩
    · rw [hg] at hb
      exact LWp.skip ⟨(), trivial, Ent.el ⟨rfl, by rw [hb]; rfl, trivial⟩⟩
  intro _ _
  refine LWp.cutX (fun _ : Unit => True) (fun _ => el [(5, I (freshE s l))]) (fun _ => []) (fun _ => []) ?_ ?_
  · refine LWp.sx (gs := []) (hs := [.ret (B (nameB s))]) rfl ⟨rname_ev s hl, trivial⟩ ?_
    refine LWp.ite rfl (fun hb => ?_) (fun hb => ?_)
    · simp only [Bool.not_eq_true'] at hb
      refine LWp.x (gs := []) (hs := []) rfl trivial ?_
      exact ⟨(), trivial, Ent.el ⟨by simp only [freshE, hb, Bool.false_eq_true, if_false]; rfl, trivial⟩⟩
    · simp only [Bool.not_eq_false'] at hb
      exact LWp.skip ⟨(), trivial, Ent.el ⟨by simp only [freshE, hb, if_true]; rfl, trivial⟩⟩
  intro _ _
  refine LWp.sx (gs := []) (hs := []) rfl trivial ?_
  refine LWp.ret (retT (.inr rfl) (.one (.tmp ?_ rfl)))
  rfl
end Go.Px

namespace Go.Px
def splitS : List UInt8 → List (List UInt8)
  | [] => [[]]
  | x :: l => if sepB x = true then [] :: splitS l else match splitS l with
    | [] => [[x]]
    | w :: ws => (x :: w) :: ws
/-- The words of a text, line by line. -/
def wordsR (t : List UInt8) : List Wd := ((splitF 10 t).dropLast).flatMap (splitF 32)
theorem splitF_ne (c : UInt8) : ∀ t, splitF c t ≠ []
  | [] => by simp [splitF]
  | x :: l => by
    simp only [splitF]
    split
    · simp
    · split <;> simp
theorem splitF_snoc (c : UInt8) : ∀ t, splitF c (t ++ [c]) = splitF c t ++ [[]]
  | [] => by simp [splitF]
  | x :: l => by
    simp only [List.cons_append, splitF, splitF_snoc c l]
    by_cases h : x = c
    · rw [if_pos h, if_pos h]; rfl
    · rw [if_neg h, if_neg h]
      cases hs : splitF c l with
      | nil => exact absurd hs (splitF_ne c l)
      | cons w ws => rfl
theorem split_both : ∀ t, (splitF 10 t).flatMap (splitF 32) = splitS t
  | [] => by simp [splitF, splitS]
  | x :: l => by
    have ih := split_both l
    simp only [splitF, splitS]
    by_cases h10 : x = 10
    · rw [if_pos h10, if_pos (by simp [sepB, h10]), List.flatMap_cons, ih]; rfl
    · rw [if_neg h10]
      cases hs : splitF 10 l with
      | nil => exact absurd hs (splitF_ne 10 l)
      | cons w ws =>
        rw [hs] at ih
        simp only [List.flatMap_cons] at ih ⊢
        by_cases h32 : x = 32
        · rw [if_pos (by simp [sepB, h32]), ← ih]
          simp only [splitF, if_pos h32]; rfl
        · rw [if_neg (by simp [sepB, h32, h10]), ← ih]
          simp only [splitF, if_neg h32]
          cases hw : splitF 32 w with
          | nil => exact absurd hw (splitF_ne 32 w)
          | cons u us => rfl
theorem wordsR_snoc (t : List UInt8) : wordsR (t ++ [10]) = splitS t := by
  unfold wordsR
  rw [splitF_snoc, List.dropLast_concat, split_both]
theorem word_ns {s : Wd} (h : wordB s = true) : NS s := by
  intro x hx
  simp only [wordB, Bool.and_eq_true, List.all_eq_true, decide_eq_true_eq] at h
  have := h.2 x hx
  simp only [sepB, Bool.or_eq_false_iff, decide_eq_false_iff_not]
  constructor
  · rintro rfl; exact absurd this.1 (by decide)
  · rintro rfl; exact absurd this.1 (by decide)
theorem splitS_word : ∀ {s : List UInt8}, NS s → splitS s = [s]
  | [], _ => rfl
  | x :: s, h => by
    simp only [splitS]
    rw [if_neg (by simp [h x (by simp)]), splitS_word (fun y hy => h y (by simp [hy]))]
theorem splitS_sep : ∀ {s : List UInt8} {c : UInt8} {t : List UInt8}, NS s → sepB c = true → splitS (s ++ c :: t) = s :: splitS t
  | [], c, t, _, hc => by simp [splitS, hc]
  | x :: s, c, t, h, hc => by
    simp only [List.cons_append, splitS]
    rw [if_neg (by simp [h x (by simp)]), splitS_sep (fun y hy => h y (by simp [hy])) hc]
theorem textG_fields (w : Nat) : ∀ (l : List Wd) (n : Nat) (cur : List UInt8), wordsB l = true → cur ≠ [] → fieldsG (textG w n l) cur = cur :: l
  | [], n, cur, _, hc => by simp [textG, fieldsG, sepB, hc]
  | s :: l, n, cur, h, hc => by
    simp only [wordsB, List.all_cons, Bool.and_eq_true] at h
    have hs := word_ns h.1
    have hne := word_ne h.1
    simp only [textG]
    split
    · simp only [fieldsG, show sepB 32 = true from rfl, if_true, if_neg hc]
      rw [fieldsG_ns hs, List.nil_append, textG_fields w l _ s h.2 hne]
    · simp only [fieldsG, show sepB 10 = true from rfl, if_true, if_neg hc]
      rw [fieldsG_ns hs, List.nil_append, textG_fields w l _ s h.2 hne]
theorem text_fields (w : Nat) {l : List Wd} (h : wordsB l = true) : fieldsF (textF w l) = l := by
  cases l with
  | nil => rfl
  | cons s l =>
    simp only [wordsB, List.all_cons, Bool.and_eq_true] at h
    simp only [fieldsF, textF]
    rw [fieldsG_ns (word_ns h.1), List.nil_append, textG_fields w l _ s h.2 (word_ne h.1)]
theorem textG_body (w : Nat) : ∀ (l : List Wd) (n : Nat), ∃ t, textG w n l = t ++ [10] ∧ (∀ s : List UInt8, NS s → wordsB l = true → splitS (s ++ t) = s :: l)
  | [], n => ⟨[], rfl, fun s hs _ => by rw [List.append_nil]; exact splitS_word hs⟩
  | x :: l, n => by
    simp only [textG]
    split
    · obtain ⟨t, h1, h2⟩ := textG_body w l (n + 1 + x.length)
      refine ⟨32 :: (x ++ t), by rw [h1]; simp, fun s hs hw => ?_⟩
      simp only [wordsB, List.all_cons, Bool.and_eq_true] at hw
      rw [splitS_sep hs rfl, h2 x (word_ns hw.1) hw.2]
    · obtain ⟨t, h1, h2⟩ := textG_body w l x.length
      refine ⟨10 :: (x ++ t), by rw [h1]; simp, fun s hs hw => ?_⟩
      simp only [wordsB, List.all_cons, Bool.and_eq_true] at hw
      rw [splitS_sep hs rfl, h2 x (word_ns hw.1) hw.2]
theorem text_words (w : Nat) {l : List Wd} (h : wordsB l = true) : wordsR (textF w l) = l := by
  cases l with
  | nil => rfl
  | cons s l =>
    simp only [wordsB, List.all_cons, Bool.and_eq_true] at h
    obtain ⟨t, h1, h2⟩ := textG_body w l s.length
    simp only [textF]
    rw [h1, ← List.append_assoc, wordsR_snoc, h2 s (word_ns h.1) h.2]
theorem read_same {w : Nat} {t : List UInt8} : readB w t (fieldsF t) = readB w t (wordsR t) ∧ (readB w t (fieldsF t) = true → fieldsF t = wordsR t) := by
  have key : ∀ l, readB w t l = true → fieldsF t = l ∧ wordsR t = l := by
    intro l h
    simp only [readB, Bool.and_eq_true, decide_eq_true_eq] at h
    have hw := (letter_zero.1 h.1).2
    rw [← h.2]
    exact ⟨text_fields w hw, text_words w hw⟩
  have h1 := key (fieldsF t)
  have h2 := key (wordsR t)
  refine ⟨?_, fun h => ((h1 h).2).symm⟩
  rw [Bool.eq_iff_iff]
  constructor
  · intro h
    rw [(h1 h).2]; exact h
  · intro h
    rw [(h2 h).1]; exact h
end Go.Px

namespace Go.Px
open Go.Proofs
theorem inB_of (n lo hi : Int) : (decide (lo ≤ n) && decide (n ≤ hi)) = !beyondB lo hi [n] := by
  rw [← inB_not]; simp
theorem rWord_ev (l : Wd) : Ev Try.prog 123 [Str l] (B (wordB l)) := by
  refine Ev.intro fn123 ?_
  refine LWp.sx (gs := []) (hs := []) rfl trivial ?_
  have hin := in_ev l.length 1 8
  rw [inB_of] at hin
  refine LWp.seq (LWp.seq ?_)
  refine LWp.x (gs := []) (hs := [.ret (B (!beyondB 1 8 [(l.length : Int)]))]) rfl ⟨hin, trivial⟩ ?_
  have hwe := wordB_eq l
  have hb8 : beyondB 1 8 [(l.length : Int)] = false → l.length ≤ 8 := fun h => by simp [beyondB] at h; omega
  generalize beyondB 1 8 [(l.length : Int)] = bb at hwe hb8
  refine LWp.ite rfl (fun h => ?_) (fun h => LWp.skip ?_)
  · have h : bb = true := by simpa using h
    refine LWp.sx (gs := []) (hs := []) rfl trivial ?_
    refine LWp.ret (retT (.inr rfl) (.one (.tmp ?_ rfl)))
    rw [hwe, h]; rfl
  · have h : bb = false := by simpa using h
    have hl8 := hb8 h
    rw [h, Bool.not_false, Bool.true_and] at hwe
    refine LWp.seq (LWp.seq ?_)
    refine LWp.x (gs := []) (hs := []) rfl trivial ?_
    refine LWp.blockT (fun _ : Unit => l.all (fun c => lowB c.toNat) = true) (fun _ => el []) (fun _ => []) (fun _ => []) ?_ ?_
    · refine LWp.loopN (fun k : Nat => k ≤ l.length ∧ l.all (fun c => lowB c.toNat) = (l.drop k).all (fun c => lowB c.toNat)) (fun k => el [(0, Str l), (3, I k)]) (fun _ => []) (fun _ => []) (fun k => l.length - k) 0 ⟨by omega, rfl⟩
        (Ent.el ⟨rfl, rfl, trivial⟩) ?_
      rintro k ⟨hk, hi⟩
      refine LWp.seq (LWp.seq ?_)
      refine LWp.x (gs := []) (hs := []) rfl trivial ?_
      refine LWp.ite rfl (fun hc => ?_) (fun hc => ?_)
      · have hc : k < l.length := by simpa [ByteArray.size] using hc
        obtain ⟨c, hcc⟩ := ex_get hc
        rw [drop_cons hcc, List.all_cons] at hi
        refine LWp.skip ?_
        refine LWp.blockX (fun _ : Unit => lowB c.toNat = true) (fun _ => el [(0, Str l), (3, I k)]) (fun _ => []) (fun _ => []) ?_ ?_
        · have hby : (⟨l.toArray⟩ : ByteArray).data.toList[((k : Nat) : Int).toNat]? = some c := by simpa using hcc
          refine LWp.seq ?_
          by_cases h1 : (c.toNat : Int) < 97
          · have g1 : decide ((c.toNat : Int) < 97) = true := decide_eq_true h1
            refine LWp.x (gs := [(18, true)]) (hs := [.byte c]) rfl (by (repeat' (with_reducible apply And.intro)); (all_goals try first | (with_reducible exact trivial) | (with_reducible rfl) | (with_reducible assumption) | ((with_reducible apply isB); first | exact rfl | exact beq_self_eq_true _)); exact (by omega)) ?_
            refine LWp.ite (b := true) rfl (fun _ => ?_) (fun h => by cases h)
            refine LWp.sx (gs := []) (hs := []) rfl trivial ?_
            refine LWp.ret (retT (.inr rfl) (.one (.tmp ?_ rfl)))
            have : lowB c.toNat = false := by simp [lowB]; omega
            rw [hwe, hi, this]; rfl
          · have g1 : decide ((c.toNat : Int) < 97) = false := decide_eq_false h1
            refine LWp.x (gs := [(18, false)]) (hs := [.byte c, .byte c]) rfl (by (repeat' (with_reducible apply And.intro)); (all_goals try first | (with_reducible exact trivial) | (with_reducible rfl) | (with_reducible assumption) | ((with_reducible apply isB); first | exact rfl | exact beq_self_eq_true _)); exact (by omega); exact (by omega)) ?_
            refine LWp.ite rfl (fun h2 => ?_) (fun h2 => LWp.skip ?_)
            · refine LWp.sx (gs := []) (hs := []) rfl trivial ?_
              refine LWp.ret (retT (.inr rfl) (.one (.tmp ?_ rfl)))
              have : lowB c.toNat = false := by simp at h2; simp [lowB]; omega
              rw [hwe, hi, this]; rfl
            · refine ⟨(), ?_, Ent.el ⟨rfl, rfl, trivial⟩⟩
              simp at h2; simp [lowB]; omega
        · intro _ hl
          refine LWp.x (gs := []) (hs := []) rfl ⟨by omega, trivial⟩ ?_
          exact ⟨k + 1, ⟨by omega, by rw [hi, hl, Bool.true_and]⟩, by omega, Ent.el ⟨rfl, rfl, trivial⟩⟩
      · have hc : ¬ k < l.length := by simpa [ByteArray.size] using hc
        refine LWp.exit ⟨(), ?_, Ent.el trivial⟩
        rw [hi, drop_nil hc]; rfl
    · intro _ hl
      refine LWp.sx (gs := []) (hs := []) rfl trivial ?_
      refine LWp.ret (retT (.inr rfl) (.one (.tmp ?_ rfl)))
      rw [hwe, hl]
      rfl
theorem rwords_ev (l : List Wd) : Ev Try.prog 95 [strs l] (B (wordsB l)) := by
  refine Ev.intro fn95 ?_
  refine LWp.slLen 0 rfl fun hll => ?_
  simp only [List.length_map] at hll
  refine LWp.sx (gs := []) (hs := []) rfl trivial ?_
  refine LWp.sx (gs := []) (hs := []) rfl trivial ?_
  refine LWp.seq (LWp.seq ?_)
  refine LWp.x (gs := []) (hs := []) rfl trivial ?_
  refine LWp.blockT (fun _ : Unit => True) (fun _ => el [(3, B (wordsB l))]) (fun _ => []) (fun _ => []) ?_ ?_
  · refine LWp.loopN (X := Nat × Bool) (fun x => x.1 ≤ l.length ∧ wordsB l = (x.2 && wordsB (l.drop x.1))) (fun x => el [(0, strs l), (3, B x.2), (4, I x.1)]) (fun _ => []) (fun _ => []) (fun x => l.length - x.1) (0, true) ⟨by simp, by simp⟩
      (Ent.el ⟨rfl, rfl, rfl, trivial⟩) ?_
    rintro ⟨k, f⟩ ⟨hk, hi⟩
    simp only at hk hi ⊢
    refine LWp.seq (LWp.seq ?_)
    refine LWp.x (gs := []) (hs := []) rfl trivial ?_
    refine LWp.ite rfl (fun hc => ?_) (fun hc => ?_)
    · simp only [List.length_map, decide_eq_true_eq, Int.ofNat_lt] at hc
      obtain ⟨s, hs⟩ := ex_get hc
      rw [drop_cons hs] at hi
      have hi : wordsB l = ((f && wordB s) && wordsB (l.drop (k + 1))) := by rw [hi, Bool.and_assoc]; rfl
      refine LWp.skip ?_
      refine LWp.blockX (fun _ : Unit => True) (fun _ => el [(0, strs l), (3, B (f && wordB s)), (4, I k)]) (fun _ => []) (fun _ => []) ?_ ?_
      · cases f with
        | false =>
          refine LWp.x (gs := [(12, false)]) (hs := []) rfl (by (repeat' (with_reducible apply And.intro)); (all_goals try first | (with_reducible exact trivial) | (with_reducible rfl) | (with_reducible assumption) | ((with_reducible apply isB); first | exact rfl | exact beq_self_eq_true _))) ?_
          exact ⟨(), trivial, Ent.el ⟨rfl, rfl, rfl, trivial⟩⟩
        | true =>
          refine LWp.x (gs := [(12, true)]) (hs := [.cells [Str s], .ret (B (wordB s))]) rfl (by (repeat' (with_reducible apply And.intro)); (all_goals try first | (with_reducible exact trivial) | (with_reducible rfl) | (with_reducible assumption) | ((with_reducible apply isB); first | exact rfl | exact beq_self_eq_true _)); exact (by omega); exact (by simp [hs]); exact rWord_ev s) ?_
          exact ⟨(), trivial, Ent.el ⟨rfl, rfl, rfl, trivial⟩⟩
      · intro _ _
        refine LWp.x (gs := []) (hs := []) rfl ⟨by omega, trivial⟩ ?_
        exact ⟨(k + 1, f && wordB s), ⟨by simp only; omega, hi⟩, by simp only; omega, Ent.el ⟨rfl, rfl, rfl, trivial⟩⟩
    · simp only [List.length_map, decide_eq_false_iff_not, Int.ofNat_lt] at hc
      refine LWp.exit ⟨(), trivial, Ent.el ⟨?_, trivial⟩⟩
      rw [hi, drop_nil hc]
      show B _ = B _
      simp [wordsB]
  · intro _ _
    refine LWp.sx (gs := []) (hs := []) rfl trivial ?_
    refine LWp.ret (retT (.inr rfl) (.one (.tmp ?_ rfl)))
    rfl
theorem rLetter_ev (l : List Wd) : Ev Try.prog 48 [strs l] (I (letterE l)) := by
  refine Ev.intro fn48 ?_
  refine LWp.sx (gs := []) (hs := []) rfl trivial ?_
  refine LWp.seq (LWp.seq ?_)
  refine LWp.x (gs := []) (hs := []) rfl trivial ?_
  refine LWp.ite rfl (fun h => ?_) (fun h => LWp.skip ?_)
  · have h : 15 < l.length := by simp at h; omega
    refine LWp.sx (gs := []) (hs := []) rfl trivial ?_
    refine LWp.ret (retT (.inr rfl) (.one (.tmp ?_ rfl)))
    show I _ = I _
    unfold letterE
    rw [if_pos h]
  · have h : ¬ 15 < l.length := by simp at h; omega
    refine LWp.seq (LWp.seq ?_)
    refine LWp.x (gs := []) (hs := [.ret (B (wordsB l))]) rfl ⟨rwords_ev l, trivial⟩ ?_
    refine LWp.ite rfl (fun hw => ?_) (fun hw => LWp.skip ?_)
    · have hw : wordsB l = false := by simpa using hw
      refine LWp.sx (gs := []) (hs := []) rfl trivial ?_
      refine LWp.ret (retT (.inr rfl) (.one (.tmp ?_ rfl)))
      show I _ = I _
      unfold letterE
      rw [if_neg h, if_neg (by simp [hw])]
    · have hw : wordsB l = true := by simpa using hw
      refine LWp.sx (gs := []) (hs := []) rfl trivial ?_
      refine LWp.ret (retT (.inr rfl) (.one (.tmp ?_ rfl)))
      show I _ = I _
      unfold letterE
      rw [if_neg h, if_pos hw]
theorem roomy_ev (p : Part) : Ev Try.prog 55 [.agg p.enc] (B p.roomy) := by
  refine Ev.intro fn55 ?_
  refine LWp.sx (gs := []) (hs := [.ice]) rfl ⟨⟨rfl, rfl⟩, trivial⟩ ?_
  refine LWp.sx (gs := []) (hs := []) rfl trivial ?_
  refine LWp.ret (retT (.inr rfl) (.one (.tmp ?_ rfl)))
  show B _ = B _
  congr 2
  unfold Part.roomy
  rw [Bool.eq_iff_iff]
  simp
end Go.Px

namespace Go.Px
open Go.Proofs
theorem rpart_ev (p : Part) (hw : p.wf) : Ev Try.prog 63 [.agg p.enc] (I (partE p)) := by
  have hlo := wf_i64 hw.lo0 hw.lo1
  have hhi := wf_i64 hw.hi0 hw.hi1
  have h00 := wf_i64 (n := 0) (by decide) (by decide)
  have hln : (p.words.map fun s => [Str s]).length = p.words.length := List.length_map _
  refine Ev.intro fn63 ?_
  unfold partE
  refine LWp.sx (gs := []) (hs := [.ice]) rfl ⟨⟨rfl, rfl⟩, trivial⟩ ?_
  refine LWp.seq (LWp.seq ?_)
  refine LWp.x (gs := []) (hs := []) rfl trivial ?_
  refine LWp.ite rfl (fun h => ?_) (fun h => LWp.skip ?_)
  · have h : 3 < p.words.length := by simp at h; omega
    rw [if_pos h]
    refine LWp.sx (gs := []) (hs := []) rfl trivial ?_
    refine LWp.ret (retT (.inr rfl) (.one (.tmp ?_ rfl)))
    rfl
  have h : ¬ 3 < p.words.length := by simp at h; omega
  rw [if_neg h]
  refine LWp.seq (LWp.seq ?_)
  refine LWp.x (gs := []) (hs := [.ret (B (wordsB p.words))]) rfl ⟨rwords_ev _, trivial⟩ ?_
  refine LWp.ite rfl (fun hws => ?_) (fun hws => LWp.skip ?_)
  · have hws : wordsB p.words = false := by simpa using hws
    rw [if_neg (by simp [hws])]
    refine LWp.sx (gs := []) (hs := []) rfl trivial ?_
    refine LWp.ret (retT (.inr rfl) (.one (.tmp ?_ rfl)))
    rfl
  have hws : wordsB p.words = true := by simpa using hws
  rw [if_pos hws]
  refine LWp.seq (LWp.seq ?_)
  refine LWp.x (gs := []) (hs := [.ret (B p.roomy)]) rfl ⟨roomy_ev p, trivial⟩ ?_
  refine LWp.ite rfl (fun hr => ?_) (fun hr => LWp.skip ?_)
  · have hr : p.words ≠ [] := by simpa [Part.roomy] using hr
    rw [if_pos hr]
    refine LWp.seq (LWp.seq ?_)
    refine LWp.x (gs := []) (hs := [.op (B (!decide (p.lo = 0 ∧ p.hi = 0)))]) rfl (by (repeat' (with_reducible apply And.intro)); (all_goals try first | (with_reducible exact trivial) | (with_reducible rfl) | (with_reducible assumption) | ((with_reducible apply isB); first | exact rfl | exact beq_self_eq_true _)); exact op_span (neg := true) hlo hhi h00 h00 rfl rfl) ?_
    refine LWp.ite rfl (fun h0 => ?_) (fun h0 => LWp.skip ?_)
    · have h0 : ¬ (p.lo = 0 ∧ p.hi = 0) := by intro e; simp [e.1, e.2] at h0
      rw [if_neg h0]
      refine LWp.sx (gs := []) (hs := []) rfl trivial ?_
      refine LWp.ret (retT (.inr rfl) (.one (.tmp ?_ rfl)))
      rfl
    · have h0 : p.lo = 0 ∧ p.hi = 0 := by simpa using h0
      rw [if_pos h0]
      refine LWp.sx (gs := []) (hs := []) rfl trivial ?_
      refine LWp.ret (retT (.inr rfl) (.one (.tmp ?_ rfl)))
      rfl
  have hr : ¬ p.words ≠ [] := by
    have : p.roomy = true := by simpa using hr
    simpa [Part.roomy] using this
  rw [if_neg hr]
  have e1 := in_ev p.lo 0 3
  have e2 := in_ev p.hi 1 3
  have hb : (beyondB 0 3 [p.lo, p.hi] || decide (p.hi = 0)) = (!(decide (0 ≤ p.lo) && decide (p.lo ≤ 3)) || !(decide (1 ≤ p.hi) && decide (p.hi ≤ 3))) := by
    rw [Bool.eq_iff_iff]; simp [beyondB]; omega
  rw [hb]
  generalize (decide (0 ≤ p.lo) && decide (p.lo ≤ 3)) = b1 at e1
  generalize (decide (1 ≤ p.hi) && decide (p.hi ≤ 3)) = b2 at e2
  refine LWp.seq (LWp.seq ?_)
  refine LWp.cutT (fun _ : Unit => True) (fun _ => el [(1, .pi p.enc), (29, B (!b1 || !b2))]) (fun _ => []) (fun _ => []) ?_ (fun _ _ => ?_)
  · cases b1 with
    | true =>
      refine LWp.x (gs := [(23, false)]) (hs := [.ret (B true), .ret (B b2)]) rfl (by (repeat' (with_reducible apply And.intro)); (all_goals try first | (with_reducible exact trivial) | (with_reducible rfl) | (with_reducible assumption) | ((with_reducible apply isB); first | exact rfl | exact beq_self_eq_true _)); exact e1; exact e2) ?_
      exact ⟨(), trivial, Ent.el ⟨rfl, rfl, trivial⟩⟩
    | false =>
      refine LWp.x (gs := [(23, true)]) (hs := [.ret (B false)]) rfl (by (repeat' (with_reducible apply And.intro)); (all_goals try first | (with_reducible exact trivial) | (with_reducible rfl) | (with_reducible assumption) | ((with_reducible apply isB); first | exact rfl | exact beq_self_eq_true _)); exact e1) ?_
      exact ⟨(), trivial, Ent.el ⟨rfl, rfl, trivial⟩⟩
  refine LWp.ite rfl (fun hq => ?_) (fun hq => LWp.skip ?_)
  · rw [if_pos hq]
    refine LWp.sx (gs := []) (hs := []) rfl trivial ?_
    refine LWp.ret (retT (.inr rfl) (.one (.tmp ?_ rfl)))
    rfl
  rw [if_neg (by simp [hq])]
  refine LWp.seq (LWp.seq ?_)
  refine LWp.x (gs := []) (hs := []) rfl trivial ?_
  refine LWp.ite rfl (fun h => ?_) (fun h => LWp.skip ?_)
  · have h : p.hi < p.lo := by simpa using h
    rw [if_pos h]
    refine LWp.sx (gs := []) (hs := []) rfl trivial ?_
    refine LWp.ret (retT (.inr rfl) (.one (.tmp ?_ rfl)))
    rfl
  · have h : ¬ p.hi < p.lo := by simpa using h
    rw [if_neg h]
    refine LWp.sx (gs := []) (hs := []) rfl trivial ?_
    refine LWp.ret (retT (.inr rfl) (.one (.tmp ?_ rfl)))
    rfl
end Go.Px

namespace Go.Px
open Go.Proofs
theorem rcheck_ev (s : Shelf) (hw : s.wf) : Ev Try.prog 17 [.agg s.enc] (.tup [I (checkS s).1, I (checkS s).2.1, I (checkS s).2.2]) := by
  refine Ev.intro fn17 ?_
  have hfl : (s.forms.map Form.enc).length = s.forms.length := List.length_map _
  have res : ∀ {env : Env} {H : Heap} {p q r : Int}, checkS s = (p, q, r) → env 2 = I p → env 3 = I q → env 4 = I r → retP Try.prog [.tmp 2, .tmp 3, .tmp 4] (.tup [I (checkS s).1, I (checkS s).2.1, I (checkS s).2.2]) .ret env H [] := by
    intro env H p q r h h2 h3 h4
    rw [h]
    exact retT (.inr rfl) (.many (by decide) ⟨.tmp h2 rfl, .tmp h3 rfl, .tmp h4 rfl, trivial⟩)
  refine LWp.sx (gs := []) (hs := [.ice]) rfl ⟨⟨rfl, rfl⟩, trivial⟩ ?_
  refine LWp.seq (LWp.seq ?_)
  refine LWp.x (gs := []) (hs := [.ret (B (decide (8 ≤ s.w) && decide (s.w ≤ 30)))]) rfl ⟨in_ev _ 8 30, trivial⟩ ?_
  refine LWp.ite rfl (fun hc => ?_) (fun hc => ?_)
  · rw [inB_not] at hc
    refine LWp.sx (gs := []) (hs := []) rfl trivial ?_
    exact LWp.ret (res (p := 1) (q := 0) (r := 7) (by simp only [checkS, hc, if_true]) rfl rfl rfl)
  rw [inB_not] at hc
  refine LWp.skip (LWp.seq (LWp.seq ?_))
  refine LWp.x (gs := []) (hs := []) rfl trivial ?_
  refine LWp.ite rfl (fun hd => ?_) (fun hd => ?_)
  · have hd : 4 < s.forms.length := by simp at hd; omega
    refine LWp.sx (gs := []) (hs := []) rfl trivial ?_
    exact LWp.ret (res (p := 2) (q := 0) (r := 3) (by simp only [checkS, hc, hd, if_true, if_false, Bool.false_eq_true]) rfl rfl rfl)
  have hd : ¬ 4 < s.forms.length := by simp at hd; omega
  refine LWp.skip ?_
  have hck : checkS s = if (failF (formE s.forms) s.forms.length 0).2 = 0 then (0, 0, 0) else (2, (failF (formE s.forms) s.forms.length 0).1, (failF (formE s.forms) s.forms.length 0).2) := by
    simp only [checkS, hc, hd, if_false, Bool.false_eq_true]
  refine LWp.sx (gs := []) (hs := []) rfl trivial ?_
  refine LWp.seq (LWp.seq ?_)
  refine LWp.x (gs := []) (hs := []) rfl trivial ?_
  refine LWp.blockT (fun _ : Unit => (failF (formE s.forms) s.forms.length 0).2 = 0) (fun _ => el []) (fun _ => []) (fun _ => []) ?_ ?_
  · refine LWp.loopN (fun k : Nat => k ≤ s.forms.length ∧ failF (formE s.forms) s.forms.length 0 = failF (formE s.forms) (s.forms.length - k) k) (fun k => el [(1, .pi s.enc), (5, .lin 9 1 (((s.forms.take k).map (·.name)).map fun s => [Str s])), (6, I k)]) (fun _ => []) (fun _ => []) (fun k => s.forms.length - k) 0 ⟨by omega, rfl⟩
      (Ent.trans (Ent.nilLin (t := 5) 9 1 rfl) (Ent.el ⟨rfl, rfl, rfl, trivial⟩)) ?_
    rintro k ⟨hk, hi⟩
    refine LWp.seq (LWp.seq ?_)
    refine LWp.x (gs := []) (hs := []) rfl trivial ?_
    refine LWp.ite rfl (fun he => ?_) (fun he => ?_)
    · simp only [List.length_map, decide_eq_true_eq, Int.ofNat_lt] at he
      obtain ⟨f, hf⟩ := ex_get he
      have hfw := hw.forms f (List.mem_of_getElem? hf)
      have hpl : (f.parts.map Part.enc).length = f.parts.length := List.length_map _
      rw [failF_step he] at hi
      have hfe : formE s.forms k = if freshE f.name ((s.forms.take k).map (·.name)) = 0 then (if 5 < f.parts.length then 3 else (failF (partsE f.parts) f.parts.length 0).2) else freshE f.name ((s.forms.take k).map (·.name)) := by
        simp only [formE, hf, freshE, List.any_map]
        by_cases g1 : nameB f.name = true
        · simp only [g1, if_true]
          have e : (s.forms.take k).any ((fun x => x == f.name) ∘ fun x => x.name) = (s.forms.take k).any (fun x => x.name == f.name) := rfl
          rw [e]
          by_cases g2 : (s.forms.take k).any (fun x => x.name == f.name) = true
          · simp [g2]
          · simp [g2]
        · simp [g1]
      refine LWp.skip ?_
      refine LWp.blockX (fun _ : Unit => formE s.forms k = 0) (fun _ => el [(1, .pi s.enc), (5, .lin 9 1 (((s.forms.take (k + 1)).map (·.name)).map fun s => [Str s])), (6, I k)]) (fun _ => []) (fun _ => []) ?_ ?_
      · generalize hnm : (s.forms.take k).map (·.name) = nm at hfe
        have hnl : nm.length ≤ 4 := by rw [← hnm]; simp; omega
        have hns : (s.forms.take (k + 1)).map (·.name) = nm ++ [f.name] := by
          rw [List.take_add_one, hf, List.map_append, hnm]; rfl
        rw [hns]
        refine LWp.sx (gs := []) (hs := [.cells f.enc, .lin]) rfl ⟨⟨by omega, by simp [hf]⟩, rfl, ⟨rfl, rfl, rfl, by decide⟩, trivial⟩ ?_
        refine LWp.ent (Ent.freezeLbox (t := 7) rfl) ?_
        refine LWp.peek 5 rfl (fun ad cap => ?_)
        refine LWp.sx (gs := []) (hs := [.retB [Str f.name, strs nm] (I (freshE f.name nm))]) rfl ⟨⟨fresh_ev f.name hfw.name nm, rfl, .refl _, .linV (u := 5) rfl rfl, trivial⟩, trivial⟩ ?_
        refine LWp.sx (gs := []) (hs := [.ice, .own 5]) rfl ⟨rfl, ⟨⟨rfl, rfl, rfl⟩, by simp [chunk]; omega, by simp [chunk]; omega⟩, trivial⟩ ?_
        generalize freshE f.name nm = e0 at hfe
        refine LWp.cutX (fun _ : Unit => True) (fun _ => el [(1, .pi s.enc), (5, .lin 9 1 ((nm ++ [f.name]).map fun s => [Str s])), (6, I k), (7, .pi f.enc), (8, I (if e0 = 0 then (if 5 < f.parts.length then 3 else 0) else e0))]) (fun _ => []) (fun _ => []) ?_ ?_
        · by_cases g : e0 = 0
          · subst g
            refine LWp.sx (gs := [(41, true)]) (hs := []) rfl (by simp) ?_
            refine LWp.ite rfl (fun h3 => ?_) (fun h3 => ?_)
            · have h3 : 5 < f.parts.length := by simp at h3; omega
              refine LWp.x (gs := []) (hs := []) rfl trivial ?_
              exact ⟨(), trivial, Ent.el ⟨rfl, by show AV.lin _ _ _ = _; rw [List.map_append]; rfl, rfl, rfl, by rw [if_pos rfl, if_pos h3]; rfl, trivial⟩⟩
            · have h3 : ¬ 5 < f.parts.length := by simp at h3; omega
              exact LWp.skip ⟨(), trivial, Ent.el ⟨rfl, by show AV.lin _ _ _ = _; rw [List.map_append]; rfl, rfl, rfl, by rw [if_pos rfl, if_neg h3]; rfl, trivial⟩⟩
          · have g1 : (e0 == 0) = false := by simpa using g
            refine LWp.sx (gs := [(41, false)]) (hs := []) rfl (by simp [g1]) ?_
            refine LWp.ite (b := false) rfl (fun h => by cases h) (fun _ => ?_)
            exact LWp.skip ⟨(), trivial, Ent.el ⟨rfl, by show AV.lin _ _ _ = _; rw [List.map_append]; rfl, rfl, rfl, by rw [if_neg g]; rfl, trivial⟩⟩
        intro _ _
        refine LWp.seq (LWp.seq ?_)
        refine LWp.x (gs := []) (hs := []) rfl trivial ?_
        refine LWp.blockT (fun _ : Unit => True) (fun _ => el [(1, .pi s.enc), (5, .lin 9 1 ((nm ++ [f.name]).map fun s => [Str s])), (6, I k), (7, .pi f.enc), (8, I (formE s.forms k))]) (fun _ => []) (fun _ => []) ?_ ?_
        · refine LWp.loopN (fun x : Nat × Int => x.1 ≤ f.parts.length ∧ (x.2 = 0 → f.parts.length ≤ 5) ∧ formE s.forms k = if x.2 = 0 then (failF (partsE f.parts) (f.parts.length - x.1) x.1).2 else x.2) (fun x => el [(1, .pi s.enc), (5, .lin 9 1 ((nm ++ [f.name]).map fun s => [Str s])), (6, I k), (7, .pi f.enc), (8, I x.2), (9, I x.1)]) (fun _ => []) (fun _ => []) (fun x => f.parts.length - x.1) (0, if e0 = 0 then (if 5 < f.parts.length then 3 else 0) else e0) ⟨by omega, ?_, ?_⟩
            (Ent.el ⟨rfl, rfl, rfl, rfl, rfl, rfl, trivial⟩) ?_
          · simp only
            by_cases g : e0 = 0
            · by_cases g3 : 5 < f.parts.length
              · simp [g, g3]
              · intro _; omega
            · simp [g]
          · show formE s.forms k = if (if e0 = 0 then (if 5 < f.parts.length then 3 else 0) else e0) = 0 then (failF (partsE f.parts) (f.parts.length - 0) 0).2 else (if e0 = 0 then (if 5 < f.parts.length then 3 else 0) else e0)
            rw [hfe]
            by_cases g : e0 = 0
            · by_cases g3 : 5 < f.parts.length
              · simp [g, g3]
              · simp [g, g3]
            · simp [g]
          rintro ⟨j, e⟩ ⟨hj, hf5, hji⟩
          simp only at hj hf5 hji
          by_cases hlt : j < f.parts.length
          · have g1 : decide ((j : Int) < ((f.parts.map Part.enc).length : Int)) = true := decide_eq_true (by rw [hpl]; omega)
            refine LWp.seq (LWp.seq ?_)
            refine LWp.x (gs := [(52, true)]) (hs := []) rfl (by (repeat' (with_reducible apply And.intro)); (all_goals try first | (with_reducible exact trivial) | (with_reducible rfl) | (with_reducible assumption) | ((with_reducible apply isB); first | exact rfl | exact beq_self_eq_true _))) ?_
            refine LWp.ite rfl (fun hz => ?_) (fun hz => ?_)
            · have hz : e = 0 := by simpa using hz
              subst hz
              rw [if_pos rfl] at hji
              have hf5 := hf5 rfl
              obtain ⟨p, hp⟩ := ex_get hlt
              have hpe : partsE f.parts j = partE p := by simp only [partsE, hp]
              have hpe2 := rpart_ev p (hfw.parts p (List.mem_of_getElem? hp))
              rw [failF_step hlt, hpe] at hji
              generalize partE p = e at hji hpe2
              refine LWp.skip (LWp.seq (LWp.block ?_))
              refine LWp.x (gs := []) (hs := [.cells p.enc, .ret (I e)]) rfl ⟨⟨by omega, by simp [hp]⟩, hpe2, trivial⟩ ?_
              refine LWp.x (gs := []) (hs := []) rfl ⟨by omega, trivial⟩ ?_
              refine ⟨(j + 1, e), ⟨by simp only; omega, fun _ => hf5, ?_⟩, by simp only; omega, Ent.el ⟨rfl, rfl, rfl, rfl, rfl, rfl, trivial⟩⟩
              simp only
              rw [hji]
              by_cases g : e = 0
              · rw [if_pos g, if_pos g]
              · rw [if_neg g, if_neg g]
            · have hz : ¬ e = 0 := by simpa using hz
              rw [if_neg hz] at hji
              exact LWp.exit ⟨(), trivial, Ent.el ⟨rfl, rfl, rfl, rfl, by rw [hji]; rfl, trivial⟩⟩
          · have g1 : decide ((j : Int) < ((f.parts.map Part.enc).length : Int)) = false := decide_eq_false (by rw [hpl]; omega)
            refine LWp.seq (LWp.seq ?_)
            refine LWp.x (gs := [(52, false)]) (hs := []) rfl (by (repeat' (with_reducible apply And.intro)); (all_goals try first | (with_reducible exact trivial) | (with_reducible rfl) | (with_reducible assumption) | ((with_reducible apply isB); first | exact rfl | exact beq_self_eq_true _))) ?_
            refine LWp.ite (b := false) rfl (fun h => by cases h) (fun _ => ?_)
            refine LWp.exit ⟨(), trivial, Ent.el ⟨rfl, rfl, rfl, rfl, ?_, trivial⟩⟩
            rw [hji]
            by_cases g : e = 0
            · rw [if_pos g, show f.parts.length - j = 0 by omega, g]; rfl
            · rw [if_neg g]; rfl
        intro _ _
        generalize formE s.forms k = e at hi
        refine LWp.seq ?_
        refine LWp.x (gs := []) (hs := []) rfl trivial ?_
        refine LWp.ite rfl (fun h4 => ?_) (fun h4 => ?_)
        · have h4 : e ≠ 0 := by simpa using h4
          rw [if_neg h4] at hi
          refine LWp.sx (gs := []) (hs := []) rfl trivial ?_
          exact LWp.ret (res (p := 2) (q := (k : Int)) (r := e) (by rw [hck, hi, if_neg h4]) rfl rfl rfl)
        · have h4 : e = 0 := by simpa using h4
          exact LWp.skip ⟨(), h4, Ent.el ⟨rfl, rfl, rfl, trivial⟩⟩
      · intro _ hz
        rw [if_pos hz] at hi
        refine LWp.x (gs := []) (hs := []) rfl ⟨by omega, trivial⟩ ?_
        exact ⟨k + 1, ⟨he, hi⟩, by omega, Ent.el ⟨rfl, rfl, rfl, trivial⟩⟩
    · simp only [List.length_map, decide_eq_false_iff_not, Int.ofNat_lt] at he
      refine LWp.exit ⟨(), ?_, Ent.el trivial⟩
      rw [hi, show s.forms.length - k = 0 by omega]; rfl
  · intro _ h0
    refine LWp.sx (gs := []) (hs := []) rfl trivial ?_
    exact LWp.ret (res (p := 0) (q := 0) (r := 0) (by rw [hck, if_pos h0]) rfl rfl rfl)
end Go.Px

namespace Go.Px
open Go.Proofs
theorem rthen_ev (l : List Wd) (e : Int) : Ev Try.prog 73 [strs l, I e] (I (thenE e l)) := by
  refine Ev.intro fn73 ?_
  have hl := rLetter_ev l
  refine LWp.sx (gs := []) (hs := []) rfl trivial ?_
  refine LWp.cutX (fun _ : Unit => True) (fun _ => el [(1, I (thenE e l))]) (fun _ => []) (fun _ => []) ?_ ?_
  · refine LWp.sx (gs := []) (hs := []) rfl trivial ?_
    refine LWp.ite rfl (fun h => ?_) (fun h => ?_)
    · have h : e = 0 := by simpa using h
      refine LWp.x (gs := []) (hs := [.ret (I (letterE l))]) rfl ⟨hl, trivial⟩ ?_
      exact ⟨(), trivial, Ent.el ⟨by rw [thenE, if_pos h]; rfl, trivial⟩⟩
    · have h : ¬ e = 0 := by simpa using h
      exact LWp.skip ⟨(), trivial, Ent.el ⟨by rw [thenE, if_neg h]; rfl, trivial⟩⟩
  intro _ _
  refine LWp.sx (gs := []) (hs := []) rfl trivial ?_
  refine LWp.ret (retT (.inr rfl) (.one (.tmp ?_ rfl)))
  rfl
end Go.Px

namespace Go.Px
open Go.Proofs
theorem str_append (a b : List UInt8) : (⟨a.toArray⟩ : ByteArray) ++ ⟨b.toArray⟩ = ⟨(a ++ b).toArray⟩ := by
  apply ByteArray.ext
  simp [ByteArray.data_append]
theorem str_size (a : List UInt8) : (⟨a.toArray⟩ : ByteArray).size = a.length := by
  show a.toArray.size = _
  simp
theorem rtext_ev (w : Nat) (hw : w ≤ 1000) (l : List Wd) (hl : (textF w l).length ≤ 1000) : Ev Try.prog 76 [I w, strs l] (Str (textF w l)) := by
  refine Ev.intro fn76 ?_
  refine LWp.slLen 1 rfl fun hll => ?_
  simp only [List.length_map] at hll
  have hln : (l.map fun s => [Str s]).length = l.length := List.length_map _
  refine LWp.sx (gs := []) (hs := []) rfl trivial ?_
  refine LWp.sx (gs := []) (hs := []) rfl trivial ?_
  refine LWp.seq (LWp.seq ?_)
  refine LWp.x (gs := []) (hs := []) rfl trivial ?_
  refine LWp.blockT (fun x : List UInt8 × List UInt8 => textF w l = x.1 ++ (if l = [] then [] else x.2 ++ [10])) (fun x => el [(1, strs l), (5, Str x.1), (6, Str x.2)]) (fun _ => []) (fun _ => []) ?_ ?_
  · refine LWp.loopN (fun x : Nat × List UInt8 × List UInt8 => x.1 ≤ l.length ∧ (x.1 = 0 → x.2.1 = [] ∧ x.2.2 = []) ∧ (x.1 ≠ 0 → textF w l = x.2.1 ++ (x.2.2 ++ textG w x.2.2.length (l.drop x.1)))) (fun x => el [(0, I w), (1, strs l), (5, Str x.2.1), (6, Str x.2.2), (7, I x.1)]) (fun _ => []) (fun _ => []) (fun x => l.length - x.1) (0, [], []) ⟨by omega, fun _ => ⟨rfl, rfl⟩, fun h => absurd rfl h⟩
      (Ent.el ⟨rfl, rfl, rfl, rfl, rfl, trivial⟩) ?_
    rintro ⟨k, a, b⟩ ⟨hk, hz, hi⟩
    simp only at hk hz hi
    refine LWp.ent (Ent.el (l := [(0, I w), (1, strs l), (5, Str a), (6, Str b), (7, I k)]) ⟨rfl, rfl, rfl, rfl, rfl, trivial⟩) ?_
    refine LWp.seq (LWp.seq ?_)
    refine LWp.x (gs := []) (hs := []) rfl trivial ?_
    refine LWp.ite rfl (fun he => ?_) (fun he => ?_)
    · simp only [List.length_map, decide_eq_true_eq, Int.ofNat_lt] at he
      obtain ⟨s, hs⟩ := ex_get he
      refine LWp.skip ?_
      refine LWp.blockX (fun x : List UInt8 × List UInt8 => textF w l = x.1 ++ (x.2 ++ textG w x.2.length (l.drop (k + 1)))) (fun x => el [(0, I w), (1, strs l), (5, Str x.1), (6, Str x.2), (7, I k)]) (fun _ => []) (fun _ => []) ?_ ?_
      · refine LWp.block ?_
        by_cases h0 : k = 0
        · subst h0
          refine LWp.sx (gs := []) (hs := []) rfl trivial ?_
          refine LWp.ite (b := true) rfl (fun _ => ?_) (fun h => by cases h)
          obtain ⟨rfl, rfl⟩ := hz rfl
          refine LWp.x (gs := []) (hs := [.cells [Str s]]) rfl ⟨⟨by omega, by simp [hs]⟩, trivial⟩ ?_
          refine ⟨([], s), ?_, Ent.el ⟨rfl, rfl, rfl, rfl, rfl, trivial⟩⟩
          cases l with
          | nil => simp at hs
          | cons s' l' =>
            simp at hs; subst hs
            simp [textF]
        · have hi := hi h0
          rw [drop_cons hs, textG] at hi
          have hbl : b.length ≤ 1000 := by rw [hi] at hl; simp only [List.length_append] at hl; omega
          have hsl : s.length ≤ 1000 := by
            rw [hi] at hl
            simp only [List.length_append] at hl
            split at hl
            · simp only [List.length_append, List.length_cons] at hl; omega
            · simp only [List.length_append, List.length_cons] at hl; omega
          have sb := str_size b
          have ss := str_size s
          have s32 : (⟨#[32]⟩ : ByteArray).size = 1 := rfl
          have s10 : (⟨#[10]⟩ : ByteArray).size = 1 := rfl
          have g : ((k : Int) == 0) = false := by simp; omega
          refine LWp.sx (gs := []) (hs := []) rfl trivial ?_
          refine LWp.ite rfl (fun h => by rw [g] at h; cases h) (fun _ => ?_)
          refine LWp.sx (gs := []) (hs := [.cells [Str s]]) rfl ⟨by omega, ⟨by omega, by simp [hs]⟩, by omega, trivial⟩ ?_
          refine LWp.ite rfl (fun hq => ?_) (fun hq => ?_)
          · have hq : b.length + 1 + s.length ≤ w := by
              simp only [decide_eq_true_eq, sb, ss] at hq
              omega
            rw [if_pos hq] at hi
            refine LWp.x (gs := []) (hs := [.cells [Str s]]) rfl ⟨by omega, ⟨by omega, by simp [hs]⟩, by rw [ByteArray.size_append]; omega, trivial⟩ ?_
            refine ⟨(a, b ++ 32 :: s), ?_, Ent.el ⟨rfl, rfl, rfl, ?_, rfl, trivial⟩⟩
            · rw [hi]
              simp [Nat.add_comm, Nat.add_left_comm]
            · show AV.v (.string (((⟨b.toArray⟩ : ByteArray) ++ ⟨[32].toArray⟩) ++ ⟨s.toArray⟩)) = Str (b ++ 32 :: s)
              rw [str_append, str_append]; simp
          · have hq : ¬ b.length + 1 + s.length ≤ w := by
              simp only [decide_eq_false_iff_not, sb, ss] at hq
              omega
            rw [if_neg hq] at hi
            have hal : a.length ≤ 1000 := by rw [hi] at hl; simp only [List.length_append] at hl; omega
            have sa := str_size a
            refine LWp.dd (gs := []) (hs := [.cells [Str s]]) hmix rfl (by kernel_rfl) ⟨by omega, by rw [ByteArray.size_append]; omega, ⟨by omega, by simp [hs]⟩, trivial⟩ ?_
            refine ⟨(a ++ b ++ [10], s), ?_, Ent.el ⟨rfl, rfl, ?_, rfl, rfl, trivial⟩⟩
            · rw [hi]
              simp
            · show AV.v (.string (((⟨a.toArray⟩ : ByteArray) ++ ⟨b.toArray⟩) ++ ⟨[10].toArray⟩)) = Str (a ++ b ++ [10])
              rw [str_append, str_append]
      rintro ⟨a', b'⟩ h
      refine LWp.x (gs := []) (hs := []) rfl ⟨by omega, trivial⟩ ?_
      refine ⟨(k + 1, a', b'), ⟨by simp only; omega, fun h => absurd h (Nat.succ_ne_zero k), fun _ => h⟩, by simp only; omega, Ent.el ⟨rfl, rfl, rfl, rfl, rfl, trivial⟩⟩
    · simp only [List.length_map, decide_eq_false_iff_not, Int.ofNat_lt] at he
      refine LWp.exit ⟨(a, b), ?_, Ent.el ⟨rfl, rfl, rfl, trivial⟩⟩
      by_cases h0 : l = []
      · subst h0
        have hk0 : k = 0 := by simpa using hk
        obtain ⟨rfl, rfl⟩ := hz hk0
        rfl
      · have hk0 : k ≠ 0 := by
          have := List.length_pos_iff.2 h0
          omega
        have hn0 : l.drop k = [] := List.drop_eq_nil_of_le (by omega)
        have hi := hi hk0
        rw [hn0, textG] at hi
        simp only [if_neg h0]
        exact hi
  rintro ⟨a, b⟩ h
  simp only at h
  refine LWp.cutX (fun _ : Unit => True) (fun _ => el [(5, Str (textF w l))]) (fun _ => []) (fun _ => []) ?_ ?_
  · refine LWp.sx (gs := []) (hs := []) rfl trivial ?_
    refine LWp.ite rfl (fun hq => ?_) (fun hq => ?_)
    · have hq : l ≠ [] := by
        intro e; subst e; simp at hq
      rw [if_neg hq] at h
      have hab : a.length + b.length ≤ 1000 := by rw [h] at hl; simp only [List.length_append] at hl; omega
      have sa := str_size a
      have sb := str_size b
      have s10 : (⟨#[10]⟩ : ByteArray).size = 1 := rfl
      refine LWp.ent (Ent.el (l := [(5, Str a), (6, Str b)]) ⟨rfl, rfl, trivial⟩) ?_
      refine LWp.x (gs := []) (hs := []) rfl ⟨by omega, by rw [ByteArray.size_append]; omega, trivial⟩ ?_
      refine ⟨(), trivial, Ent.el ⟨?_, trivial⟩⟩
      show AV.v (.string (((⟨a.toArray⟩ : ByteArray) ++ ⟨b.toArray⟩) ++ ⟨[10].toArray⟩)) = Str (textF w l)
      rw [str_append, str_append, h]; simp
    · have hq : l = [] := by
        cases l with
        | nil => rfl
        | cons x y => simp at hq
      rw [if_pos hq, List.append_nil] at h
      exact LWp.skip ⟨(), trivial, Ent.el ⟨by rw [h]; rfl, trivial⟩⟩
  intro _ _
  refine LWp.sx (gs := []) (hs := []) rfl trivial ?_
  refine LWp.ret (retT (.inr rfl) (.one (.tmp ?_ rfl)))
  rfl
end Go.Px

namespace Go.Px
open Go.Proofs
theorem splitF_len (c : UInt8) : ∀ t : List UInt8, (splitF c t).length ≤ t.length + 1
  | [] => by simp [splitF]
  | x :: l => by
    have ih := splitF_len c l
    simp only [splitF]
    split
    · simp; omega
    · cases h : splitF c l with
      | nil => simp
      | cons a q => rw [h] at ih; simp at ih ⊢; omega
theorem rwrite_ev (s : Shelf) (hw : s.wf) (l : List Wd) : Ev Try.prog 29 [.agg s.enc, strs l] (.tup [Str (writeR s l).1, I (writeR s l).2]) := by
  have hck := rcheck_ev s hw
  have hth := rthen_ev l (checkS s).2.2
  have hV := @thenE_shelf s l
  have hR : writeR s l = if thenE (checkS s).2.2 l = 0 then (textF s.w.toNat l, 0) else ([], thenE (checkS s).2.2 l) := rfl
  rw [hR]
  refine Ev.intro fn29 ?_
  generalize thenE (checkS s).2.2 l = e at hV hth
  generalize (checkS s).1 = c1 at hck
  generalize (checkS s).2.1 = c2 at hck
  generalize (checkS s).2.2 = c3 at hck hth
  refine LWp.sx (gs := []) (hs := [.ice]) rfl ⟨⟨rfl, rfl⟩, trivial⟩ ?_
  refine LWp.sx (gs := []) (hs := [.ret (.tup [I c1, I c2, I c3])]) rfl ⟨hck, trivial⟩ ?_
  refine LWp.sx (gs := []) (hs := [.ret (I e)]) rfl ⟨hth, trivial⟩ ?_
  refine LWp.seq (LWp.seq ?_)
  refine LWp.x (gs := []) (hs := []) rfl trivial ?_
  refine LWp.ite rfl (fun h => ?_) (fun h => LWp.skip ?_)
  · have h : e ≠ 0 := by simpa using h
    rw [if_neg h]
    refine LWp.sx (gs := []) (hs := []) rfl trivial ?_
    exact LWp.ret (retT (.inr rfl) (.many (by decide) ⟨.tmp rfl rfl, .tmp rfl rfl, trivial⟩))
  have h : e = 0 := by simpa using h
  rw [if_pos h]
  obtain ⟨V, hl⟩ := hV h
  have hw8 := V.w8
  have hw30 := V.w30
  have hww : (s.w.toNat : Int) = s.w := by omega
  have htl := text_len s.w.toNat hl
  have htx := rtext_ev s.w.toNat (by omega) l (by omega)
  rw [hww] at htx
  refine LWp.sx (gs := []) (hs := [.ret (Str (textF s.w.toNat l))]) rfl ⟨htx, trivial⟩ ?_
  exact LWp.ret (retT (.inr rfl) (.many (by decide) ⟨.tmp rfl rfl, .tmp rfl rfl, trivial⟩))
end Go.Px

namespace Go.Px
open Go.Proofs
theorem wordsR_split (t : List UInt8) : wordsR t = ((splitF 10 t).dropLast).flatMap (splitF 32) := rfl
theorem splitF_tot (c : UInt8) : ∀ t : List UInt8, ∀ x ∈ splitF c t, x.length ≤ t.length
  | [], x, h => by simp [splitF] at h; subst h; simp
  | a :: l, x, h => by
    have ih := splitF_tot c l
    simp only [splitF] at h
    split at h
    · rcases List.mem_cons.1 h with rfl | h
      · simp
      · have := ih x h
        simp; omega
    · cases hs : splitF c l with
      | nil => exact absurd hs (splitF_ne c l)
      | cons b q =>
        rw [hs] at h ih
        rcases List.mem_cons.1 h with rfl | h
        · have := ih b (by simp)
          simp; omega
        · have := ih x (by simp [h])
          simp; omega
theorem flatMap_small {α β : Type} (f : α → List β) (n : Nat) : ∀ l : List α, (∀ x ∈ l, (f x).length ≤ n) → (l.flatMap f).length ≤ l.length * n
  | [], _ => by simp
  | a :: l, h => by
    have h1 := h a (by simp)
    have h2 := flatMap_small f n l fun x hx => h x (by simp [hx])
    rw [List.flatMap_cons, List.length_append, List.length_cons, Nat.add_mul, Nat.one_mul]
    omega
theorem read_words {w : Nat} {t : List UInt8} : (if readB w t (fieldsF t) = true then (fieldsF t, (0 : Int)) else ([], 6)) = if readB w t (wordsR t) = true then (wordsR t, 0) else ([], 6) := by
  obtain ⟨h1, h2⟩ := read_same (w := w) (t := t)
  by_cases h : readB w t (fieldsF t) = true
  · rw [if_pos h, if_pos (h1 ▸ h), h2 h]
  · rw [if_neg h, if_neg (fun g => h (h1 ▸ g))]
theorem rread_ev (s : Shelf) (hw : s.wf) (t : List UInt8) : Ev Try.prog 31 [.agg s.enc, Str t] (.tup [strs (readR s t).1, I (readR s t).2]) := by
  have hss : (ByteArray.mk t.toArray).size = t.length := rfl
  have hck := rcheck_ev s hw
  have hV : (checkS s).2.2 = 0 → ShelfV s := fun h => shelf_iff.1 h
  have hR : readR s t = if (checkS s).2.2 = 0 then (if 160 < t.length then ([], 3) else if readB s.w.toNat t (wordsR t) = true then (wordsR t, 0) else ([], 6)) else ([], (checkS s).2.2) := by
    unfold readR
    rw [read_words]
  refine Ev.intro fn31 ?_
  have res : ∀ {env : Env} {H : Heap} {x : List Wd} {r : Int}, readR s t = (x, r) → env 4 = strs x → env 5 = I r → retP Try.prog [.tmp 4, .tmp 5] (.tup [strs (readR s t).1, I (readR s t).2]) .ret env H [] := by
    intro env H x r h h2 h3
    rw [h]
    exact retT (.inr rfl) (.many (by decide) ⟨.tmp h2 rfl, .tmp h3 rfl, trivial⟩)
  generalize (checkS s).1 = c1 at hck
  generalize (checkS s).2.1 = c2 at hck
  generalize (checkS s).2.2 = c3 at hck hV hR
  refine LWp.sx (gs := []) (hs := [.ice]) rfl ⟨⟨rfl, rfl⟩, trivial⟩ ?_
  refine LWp.sx (gs := []) (hs := [.ret (.tup [I c1, I c2, I c3])]) rfl ⟨hck, trivial⟩ ?_
  refine LWp.cutX (fun _ : Unit => True) (fun _ => el [(1, Str t), (2, .pi s.enc), (8, I (if c3 = 0 then (if 160 < t.length then 3 else 0) else c3))]) (fun _ => []) (fun _ => []) ?_ ?_
  · refine LWp.seq ?_
    by_cases h : c3 = 0
    · rw [if_pos h]
      have g : (c3 == 0) = true := by simpa using h
      refine LWp.x (gs := [(20, true)]) (hs := []) rfl (by (repeat' (with_reducible apply And.intro)); (all_goals try first | (with_reducible exact trivial) | (with_reducible rfl) | (with_reducible assumption) | ((with_reducible apply isB); first | exact rfl | exact beq_self_eq_true _))) ?_
      by_cases hl : 160 < t.length
      · rw [if_pos hl]
        refine LWp.ite (b := true) (by show B _ = B _; rw [hss]; congr 2; simp; omega) (fun _ => ?_) (fun h => by cases h)
        refine LWp.x (gs := []) (hs := []) rfl trivial ?_
        exact ⟨(), trivial, Ent.el ⟨rfl, rfl, rfl, trivial⟩⟩
      · rw [if_neg hl]
        refine LWp.ite (b := false) (by show B _ = B _; rw [hss]; congr 2; simp; omega) (fun h => by cases h) (fun _ => LWp.skip ?_)
        exact ⟨(), trivial, Ent.el ⟨rfl, rfl, by rw [h]; rfl, trivial⟩⟩
    · rw [if_neg h]
      have g : (c3 == 0) = false := by simpa using h
      refine LWp.x (gs := [(20, false)]) (hs := []) rfl (by (repeat' (with_reducible apply And.intro)); (all_goals try first | (with_reducible exact trivial) | (with_reducible rfl) | (with_reducible assumption) | ((with_reducible apply isB); first | exact rfl | exact beq_self_eq_true _))) ?_
      refine LWp.ite (b := false) rfl (fun h => by cases h) (fun _ => LWp.skip ?_)
      exact ⟨(), trivial, Ent.el ⟨rfl, rfl, rfl, trivial⟩⟩
  intro _ _
  by_cases h : c3 = 0
  case neg =>
    rw [if_neg h]
    rw [if_neg h] at hR
    refine LWp.seq (LWp.seq ?_)
    refine LWp.x (gs := []) (hs := []) rfl trivial ?_
    refine LWp.ite (b := true) (by show B _ = B _; simp [h]) (fun _ => ?_) (fun h => by cases h)
    refine LWp.sx (gs := []) (hs := []) rfl trivial ?_
    refine LWp.ent (Ent.nilSl (t := 4) 1 rfl) ?_
    exact LWp.ret (res hR rfl rfl)
  rw [if_pos h]
  rw [if_pos h] at hR
  have V := hV h
  by_cases hl : 160 < t.length
  · rw [if_pos hl]
    rw [if_pos hl] at hR
    refine LWp.seq (LWp.seq ?_)
    refine LWp.x (gs := []) (hs := []) rfl trivial ?_
    refine LWp.ite (b := true) rfl (fun _ => ?_) (fun h => by cases h)
    refine LWp.sx (gs := []) (hs := []) rfl trivial ?_
    refine LWp.ent (Ent.nilSl (t := 4) 1 rfl) ?_
    exact LWp.ret (res hR rfl rfl)
  rw [if_neg hl]
  rw [if_neg hl] at hR
  have hsp := rsplit_ev t 10 (by omega)
  have hsl := splitF_len 10 t
  have hst := splitF_tot 10 t
  refine LWp.seq (LWp.seq ?_)
  refine LWp.x (gs := []) (hs := []) rfl trivial ?_
  refine LWp.ite (b := false) rfl (fun h => by cases h) (fun _ => LWp.skip ?_)
  rw [wordsR_split] at hR
  generalize splitF 10 t = LL at hsp hsl hst hR
  have hLl : (LL.map fun s => [Str s]).length = LL.length := List.length_map _
  have hfm : ∀ k, ((LL.take k).flatMap (splitF 32)).length ≤ 161 * 161 := by
    intro k
    have h1 := flatMap_small (splitF 32) 161 (LL.take k) (by
      intro x hx
      have h2 := hst x (List.mem_of_mem_take hx)
      have h3 := splitF_len 32 x
      omega)
    have h4 : (LL.take k).length ≤ 161 := by rw [List.length_take]; omega
    exact Nat.le_trans h1 (Nat.mul_le_mul_right _ h4)
  refine LWp.sx (gs := []) (hs := []) rfl trivial ?_
  refine LWp.sx (gs := []) (hs := [.ret (strs LL)]) rfl ⟨hsp, trivial⟩ ?_
  refine LWp.seq (LWp.seq ?_)
  refine LWp.x (gs := []) (hs := []) rfl trivial ?_
  refine LWp.blockT (fun _ : Unit => True) (fun _ => el [(1, Str t), (2, .pi s.enc), (9, .lin 9 1 ((LL.dropLast.flatMap (splitF 32)).map fun s => [Str s]))]) (fun _ => []) (fun _ => []) ?_ ?_
  · refine LWp.loopN (fun k : Nat => k ≤ LL.length - 1) (fun k => el [(1, Str t), (2, .pi s.enc), (9, .lin 9 1 (((LL.take k).flatMap (splitF 32)).map fun s => [Str s])), (10, strs LL), (11, I k)]) (fun _ => []) (fun _ => []) (fun k => LL.length - k) 0 (by omega)
      (Ent.trans (Ent.nilLin (t := 9) 9 1 rfl) (Ent.el ⟨rfl, rfl, rfl, rfl, rfl, trivial⟩)) ?_
    intro k hk
    refine LWp.seq (LWp.seq ?_)
    refine LWp.x (gs := []) (hs := []) rfl ⟨by omega, trivial⟩ ?_
    refine LWp.ite rfl (fun he => ?_) (fun he => ?_)
    · have he : k + 1 < LL.length := by simp only [List.length_map, decide_eq_true_eq] at he; omega
      obtain ⟨x, hx⟩ := ex_get (l := LL) (k := k) (by omega)
      have hxl := hst x (List.mem_of_getElem? hx)
      have hs2 := rsplit_ev x 32 (by omega)
      have h3 := splitF_len 32 x
      have hA := hfm k
      have htk : (LL.take (k + 1)).flatMap (splitF 32) = (LL.take k).flatMap (splitF 32) ++ splitF 32 x := by
        rw [take_snoc hx, List.flatMap_append]
        simp
      refine LWp.skip (LWp.seq (LWp.block ?_))
      generalize splitF 32 x = X at hs2 h3 htk
      generalize (LL.take k).flatMap (splitF 32) = A at htk hA
      have hAl : (A.map fun s => [Str s]).length = A.length := List.length_map _
      have hXl : (X.map fun s => [Str s]).length = X.length := List.length_map _
      refine LWp.x (gs := []) (hs := [.cells [Str x], .ret (strs X)]) rfl ⟨⟨by omega, by simp [hx]⟩, hs2, ⟨by rw [hAl, hXl]; omega, by rw [hAl, hXl]; omega⟩, trivial⟩ ?_
      refine LWp.x (gs := []) (hs := []) rfl ⟨by omega, trivial⟩ ?_
      refine ⟨k + 1, by omega, by omega, Ent.el ⟨rfl, rfl, ?_, rfl, rfl, trivial⟩⟩
      show AV.lin _ _ _ = _
      rw [htk, List.map_append]
    · have he : ¬ k + 1 < LL.length := by simp only [List.length_map, decide_eq_false_iff_not] at he; omega
      refine LWp.exit ⟨(), trivial, Ent.el ⟨rfl, rfl, ?_, trivial⟩⟩
      have : LL.dropLast = LL.take k := by rw [List.dropLast_eq_take]; congr 1; omega
      rw [this]; rfl
  intro _ _
  generalize hX : LL.dropLast.flatMap (splitF 32) = X at hR
  refine LWp.ent (Ent.freezeLin (t := 9) rfl) ?_
  have hle := rLetter_ev X
  have hw8 := V.w8
  have hw30 := V.w30
  have hww : (s.w.toNat : Int) = s.w := by omega
  refine LWp.seq (LWp.seq ?_)
  by_cases hlz : letterE X = 0
  · have htl := text_len s.w.toNat hlz
    have htx := rtext_ev s.w.toNat (by omega) X (by omega)
    rw [hww] at htx
    rw [hlz] at hle
    generalize hT : textF s.w.toNat X = T at htx
    have hrB : readB s.w.toNat t X = decide (T = t) := by unfold readB; rw [hT]; simp [hlz]
    rw [hrB] at hR
    refine LWp.x (gs := [(47, false)]) (hs := [.ret (I 0), .ret (Str T)]) rfl (by (repeat' (with_reducible apply And.intro)); (all_goals try first | (with_reducible exact trivial) | (with_reducible rfl) | (with_reducible assumption) | ((with_reducible apply isB); first | exact rfl | exact beq_self_eq_true _)); exact hle; exact htx) ?_
    by_cases hTt : T = t
    · rw [if_pos (by simpa using hTt)] at hR
      refine LWp.ite (b := false) (by show B _ = B _; subst hTt; simp) (fun h => by cases h) (fun _ => LWp.skip ?_)
      refine LWp.sx (gs := []) (hs := []) rfl trivial ?_
      exact LWp.ret (res hR rfl rfl)
    · rw [if_neg (by simpa using hTt)] at hR
      have hne : ¬ (ByteArray.mk T.toArray = ByteArray.mk t.toArray) := fun e => hTt (by simpa using congrArg ByteArray.data e)
      refine LWp.ite (b := true) (by show B _ = B _; simp [hTt]) (fun _ => ?_) (fun h => by cases h)
      refine LWp.sx (gs := []) (hs := []) rfl trivial ?_
      refine LWp.ent (Ent.nilSl (t := 4) 1 rfl) ?_
      exact LWp.ret (res hR rfl rfl)
  · have hrB : readB s.w.toNat t X = false := by unfold readB; simp [hlz]
    rw [hrB, if_neg (by decide)] at hR
    have g : (letterE X != 0) = true := by simp [hlz]
    generalize letterE X = e at hle g
    refine LWp.x (gs := [(47, true)]) (hs := [.ret (I e)]) rfl (by (repeat' (with_reducible apply And.intro)); (all_goals try first | (with_reducible exact trivial) | (with_reducible rfl) | (with_reducible assumption) | ((with_reducible apply isB); first | exact rfl | exact beq_self_eq_true _)); exact hle) ?_
    refine LWp.ite (b := true) rfl (fun _ => ?_) (fun h => by cases h)
    refine LWp.sx (gs := []) (hs := []) rfl trivial ?_
    refine LWp.ent (Ent.nilSl (t := 4) 1 rfl) ?_
    exact LWp.ret (res hR rfl rfl)
end Go.Px

namespace Go.Px
open Go.Proofs
theorem letterTexts_ev (s : Shelf) (hw : s.wf) (l : List Wd) (t : List UInt8) : Ev Try.prog 5 [.agg s.enc, strs l, Str t] (B true) := by
  have e1 := write_ev2 s hw l
  have e2 := rwrite_ev s hw l
  have e3 := read_ev s hw t
  have e4 := rread_ev s hw t
  generalize (writeR s l).1 = p at e1 e2
  generalize (writeR s l).2 = q at e1 e2
  generalize (readR s t).1 = x at e3 e4
  generalize (readR s t).2 = y at e3 e4
  have g : (!(ByteArray.mk p.toArray).toList == (ByteArray.mk p.toArray).toList) = false := by rw [beq_self_eq_true]; rfl
  refine Ev.intro fn5 ?_
  refine LWp.sx (gs := []) (hs := [.ice]) rfl ⟨⟨rfl, rfl⟩, trivial⟩ ?_
  refine LWp.sx (gs := []) (hs := [.ret (.tup [Str p, I q])]) rfl ⟨e1, trivial⟩ ?_
  refine LWp.sx (gs := []) (hs := [.ret (.tup [Str p, I q])]) rfl ⟨e2, trivial⟩ ?_
  refine LWp.seq (LWp.seq ?_)
  refine LWp.x (gs := [(28, false)]) (hs := []) rfl (by (repeat' (with_reducible apply And.intro)); (all_goals try first | (with_reducible exact trivial) | (with_reducible rfl) | (with_reducible assumption) | ((with_reducible apply isB); first | exact rfl | exact beq_self_eq_true _))) ?_
  refine LWp.ite rfl (fun h => ?_) (fun _ => LWp.skip ?_)
  · simp at h
  refine LWp.sx (gs := []) (hs := [.ret (.tup [strs x, I y])]) rfl ⟨e3, trivial⟩ ?_
  refine LWp.sx (gs := []) (hs := [.ret (.tup [strs x, I y])]) rfl ⟨e4, trivial⟩ ?_
  refine LWp.sx (gs := [(48, true), (53, true)]) (hs := [.ret (B true), .ret (B true)]) rfl (by (repeat' (with_reducible apply And.intro)); (all_goals try first | (with_reducible exact trivial) | (with_reducible rfl) | (with_reducible assumption) | ((with_reducible apply isB); first | exact rfl | exact beq_self_eq_true _)); exact same_refl _; exact awake_ev) ?_
  refine LWp.ret (retT (.inr rfl) (.one (.tmp ?_ rfl)))
  rfl
end Go.Px

