/- Part 2 of the proof of the statement LetterMarks (contracts of the functions that it alone wants). No conditions. -/
import Derived.Test.YtbplgdbdpdhipaaBMarks1
import Derived.Test.YtbplgdbdpdhipaaChecked
import Derived.KernelRfl
namespace Go.Px
open Go.Proofs
set_option maxRecDepth 100000
def L6 : LCode :=
 (.seq
 (.ops [⟨(some 6), none, .mov (.const (.bool false))⟩])
 (.seq
 (.ops [⟨(some 16), none, .mov (tm 0)⟩,
 ⟨(some 17), none, .mov (tm 1)⟩,
 ⟨(some 18), none, .call 32 [(tm 16), (tm 17)] 48⟩,
 ⟨(some 15), none, .mov (tm 18)⟩,
 ⟨(some 19), none, .extract (tm 15) 0⟩,
 ⟨(some 20), none, .extract (tm 15) 1⟩,
 ⟨(some 21), none, .extract (tm 15) 2⟩,
 ⟨(some 7), none, .mov (tm 19)⟩,
 ⟨(some 8), none, .mov (tm 20)⟩,
 ⟨(some 9), none, .mov (tm 21)⟩])
 (.seq
 (.ops [⟨(some 23), none, .mov (tm 0)⟩,
 ⟨(some 24), none, .mov (tm 1)⟩,
 ⟨(some 25), none, .call 33 [(tm 23), (tm 24)] 48⟩,
 ⟨(some 22), none, .mov (tm 25)⟩,
 ⟨(some 26), none, .extract (tm 22) 0⟩,
 ⟨(some 27), none, .extract (tm 22) 1⟩,
 ⟨(some 28), none, .extract (tm 22) 2⟩,
 ⟨(some 10), none, .mov (tm 26)⟩,
 ⟨(some 11), none, .mov (tm 27)⟩,
 ⟨(some 12), none, .mov (tm 28)⟩])
 (.seq
 (.seq
 (.ops [⟨(some 29), none, .mov (tm 7)⟩,
 ⟨(some 30), none, .mov (tm 10)⟩,
 ⟨(some 31), none, .call 34 [(tm 29), (tm 30)] 4⟩,
 ⟨(some 32), none, .un .not (tm 31)⟩,
 ⟨(some 33), none, .mov (tm 32)⟩,
 ⟨(some 34), some (33, false), .mov (tm 8)⟩,
 ⟨(some 35), some (33, false), .mov (tm 11)⟩,
 ⟨(some 36), some (33, false), .bin .neq 3 (tm 34) (tm 35)⟩,
 ⟨(some 37), none, .pick (tm 33) (.const (.bool true)) (tm 36)⟩,
 ⟨(some 38), none, .mov (tm 37)⟩,
 ⟨(some 39), some (38, false), .mov (tm 9)⟩,
 ⟨(some 40), some (38, false), .mov (tm 12)⟩,
 ⟨(some 41), some (38, false), .bin .neq 26 (tm 39) (tm 40)⟩,
 ⟨(some 42), none, .pick (tm 38) (.const (.bool true)) (tm 41)⟩])
 (.ite (tm 42)
 (.seq
 (.ops [⟨(some 6), none, .mov (.const (.bool false))⟩])
 .ret)
 .skip))
 (.seq
 (.ops [⟨(some 44), none, .mov (tm 0)⟩,
 ⟨(some 45), none, .mov (tm 2)⟩,
 ⟨(some 46), none, .call 35 [(tm 44), (tm 45)] 30⟩,
 ⟨(some 43), none, .mov (tm 46)⟩,
 ⟨(some 47), none, .extract (tm 43) 0⟩,
 ⟨(some 48), none, .extract (tm 43) 1⟩,
 ⟨(some 13), none, .mov (tm 47)⟩,
 ⟨(some 9), none, .mov (tm 48)⟩])
 (.seq
 (.ops [⟨(some 50), none, .mov (tm 0)⟩,
 ⟨(some 51), none, .mov (tm 2)⟩,
 ⟨(some 52), none, .call 36 [(tm 50), (tm 51)] 30⟩,
 ⟨(some 49), none, .mov (tm 52)⟩,
 ⟨(some 53), none, .extract (tm 49) 0⟩,
 ⟨(some 54), none, .extract (tm 49) 1⟩,
 ⟨(some 14), none, .mov (tm 53)⟩,
 ⟨(some 12), none, .mov (tm 54)⟩])
 (.seq
 (.ops [⟨(some 55), none, .mov (tm 13)⟩,
 ⟨(some 56), none, .mov (tm 14)⟩,
 ⟨(some 57), none, .call 20 [(tm 55), (tm 56)] 4⟩,
 ⟨(some 58), none, .mov (tm 57)⟩,
 ⟨(some 59), some (58, true), .mov (tm 9)⟩,
 ⟨(some 60), some (58, true), .mov (tm 12)⟩,
 ⟨(some 61), some (58, true), .bin .eql 26 (tm 59) (tm 60)⟩,
 ⟨(some 62), none, .pick (tm 58) (tm 61) (.const (.bool false))⟩,
 ⟨(some 63), none, .mov (tm 62)⟩,
 ⟨(some 64), some (63, true), .call 21 [] 4⟩,
 ⟨(some 65), none, .pick (tm 63) (tm 64) (.const (.bool false))⟩,
 ⟨(some 6), none, .mov (tm 65)⟩])
 .ret)))))))
theorem fn6 : FnOK Try.prog 6 66 [.tmp 6] L6 := ⟨Try.f6, Try.func6, by kernel_rfl, Try.ntmps6, by rw [Try.results6], by kernel_rfl⟩
def L33 : LCode :=
 (.seq
 (.ops [⟨(some 4), none, .mov (.const (.slice none 0 0))⟩,
 ⟨(some 5), none, .mov (kc 0)⟩,
 ⟨(some 6), none, .mov (kc 0)⟩])
 (.seq
 (.ops [⟨(some 9), none, .mov (tm 1)⟩,
 ⟨(some 10), none, .mov (tm 0)⟩,
 ⟨(some 11), none, .call 48 [(tm 10)] 26⟩,
 ⟨(some 12), none, .call 73 [(tm 9), (tm 11)] 26⟩,
 ⟨(some 7), none, .mov (tm 12)⟩])
 (.seq
 (.seq
 (.ops [⟨(some 13), none, .mov (tm 7)⟩,
 ⟨(some 14), none, .bin .neq 26 (tm 13) (kc 0)⟩])
 (.ite (tm 14)
 (.seq
 (.ops [⟨(some 15), none, .mov (tm 7)⟩,
 ⟨(some 4), none, .mov (.const (.slice none 0 0))⟩,
 ⟨(some 5), none, .mov (kc 0)⟩,
 ⟨(some 6), none, .mov (tm 15)⟩])
 .ret)
 .skip))
 (.seq
 (.ops [⟨(some 16), none, .mov (tm 0)⟩,
 ⟨(some 17), none, .mov (tm 1)⟩,
 ⟨(some 18), none, .call 84 [(tm 16), (tm 17)] 47⟩,
 ⟨(some 8), none, .mov (tm 18)⟩])
 (.seq
 (.ops [⟨(some 19), none, .mov (tm 8)⟩,
 ⟨(some 20), none, .mov (tm 8)⟩,
 ⟨(some 21), none, .call 50 [(tm 20)] 3⟩,
 ⟨(some 4), none, .mov (tm 19)⟩,
 ⟨(some 5), none, .mov (tm 21)⟩,
 ⟨(some 6), none, .mov (kc 0)⟩])
 .ret)))))
theorem fn33 : FnOK Try.prog 33 22 [.tmp 4, .tmp 5, .tmp 6] L33 := ⟨Try.f33, Try.func33, by kernel_rfl, Try.ntmps33, by rw [Try.results33], by kernel_rfl⟩
def L36 : LCode :=
 (.seq
 (.ops [⟨(some 4), none, .mov (.const (.slice none 0 0))⟩,
 ⟨(some 5), none, .mov (kc 0)⟩])
 (.seq
 (.ops [⟨(some 12), none, .mov (tm 0)⟩,
 ⟨(some 13), none, .call 48 [(tm 12)] 26⟩,
 ⟨(some 6), none, .mov (tm 13)⟩])
 (.seq
 (.seq
 (.ops [⟨(some 14), none, .mov (tm 6)⟩,
 ⟨(some 15), none, .bin .eql 26 (tm 14) (kc 0)⟩,
 ⟨(some 16), none, .mov (tm 15)⟩,
 ⟨(some 17), some (16, true), .mov (tm 1)⟩,
 ⟨(some 18), some (16, true), .len false 47 3 (tm 17)⟩,
 ⟨(some 19), some (16, true), .bin .gtr 3 (tm 18) (kc 30)⟩,
 ⟨(some 20), none, .pick (tm 16) (tm 19) (.const (.bool false))⟩])
 (.ite (tm 20)
 (.ops [⟨(some 6), none, .mov (kc 3)⟩])
 .skip))
 (.seq
 (.ops [⟨(some 7), none, .mov (.const (.slice none 0 0))⟩])
 (.seq
 (.ops [⟨(some 8), none, .mov (kc 0)⟩])
 (.seq
 (.seq
 (.ops [⟨(some 9), none, .mov (kc 0)⟩])
 (.block 0
 (.loop
 (.seq
 (.seq
 (.ops [⟨(some 21), none, .mov (tm 9)⟩,
 ⟨(some 22), none, .mov (tm 1)⟩,
 ⟨(some 23), none, .len false 47 3 (tm 22)⟩,
 ⟨(some 24), none, .bin .lss 3 (tm 21) (tm 23)⟩,
 ⟨(some 25), none, .mov (tm 24)⟩,
 ⟨(some 26), some (25, true), .mov (tm 6)⟩,
 ⟨(some 27), some (25, true), .bin .eql 26 (tm 26) (kc 0)⟩,
 ⟨(some 28), none, .pick (tm 25) (tm 27) (.const (.bool false))⟩])
 (.ite (tm 28)
 .skip
 (.exit 0)))
 (.seq
 (.block 1
 (.seq
 (.dops [(⟨(some 32), none, .mov (tm 1)⟩, []),
 (⟨(some 33), none, .mov (tm 9)⟩, []),
 (⟨(some 34), none, .iaddr 47 (tm 32) (tm 33) 2⟩, [0, 1]),
 (⟨(some 35), none, .load 123 (tm 34) (some 2)⟩, [2]),
 (⟨(some 36), none, .mov (tm 0)⟩, []),
 (⟨(some 37), none, .mov (tm 8)⟩, []),
 (⟨(some 38), none, .sliceE 29 (tm 36) (some (tm 37)) none none 1⟩, [4, 5]),
 (⟨(some 39), none, .call 86 [(tm 35), (tm 38)] 30⟩, [3, 6]),
 (⟨(some 31), none, .mov (tm 39)⟩, [7]),
 (⟨(some 40), none, .extract (tm 31) 0⟩, [8]),
 (⟨(some 41), none, .extract (tm 31) 1⟩, [8]),
 (⟨(some 10), none, .mov (tm 40)⟩, [9, 7, 0, 1, 2, 3, 4, 5, 6, 7, 8, 9]),
 (⟨(some 11), none, .mov (tm 41)⟩, [10, 11, 0, 1, 2, 3, 4, 5, 6, 7, 8, 9, 10, 11])])
 (.seq
 (.ops [⟨(some 42), none, .mov (tm 7)⟩,
 ⟨(some 43), none, .mov (tm 10)⟩,
 ⟨(some 44), none, .append 29 29 (tm 42) (tm 43) 9 1 16 [(.string ⟨#[]⟩)]⟩,
 ⟨(some 45), none, .mov (tm 11)⟩,
 ⟨(some 7), none, .mov (tm 44)⟩,
 ⟨(some 6), none, .mov (tm 45)⟩])
 (.seq
 (.ops [⟨(some 46), none, .mov (tm 1)⟩,
 ⟨(some 47), none, .mov (tm 9)⟩,
 ⟨(some 48), none, .iaddr 47 (tm 46) (tm 47) 2⟩,
 ⟨(some 49), none, .faddr 123 (tm 48) 0 0⟩,
 ⟨(some 50), none, .load 3 (tm 49) none⟩,
 ⟨(some 51), none, .bin .neq 3 (tm 50) (kc 3)⟩,
 ⟨(some 52), none, .mov (tm 51)⟩,
 ⟨(some 53), some (52, true), .mov (tm 11)⟩,
 ⟨(some 54), some (52, true), .bin .eql 26 (tm 53) (kc 0)⟩,
 ⟨(some 55), none, .pick (tm 52) (tm 54) (.const (.bool false))⟩])
 (.ite (tm 55)
 (.ops [⟨(some 56), none, .mov (tm 8)⟩,
 ⟨(some 57), none, .bin .add 3 (tm 56) (kc 1)⟩,
 ⟨(some 8), none, .mov (tm 57)⟩])
 .skip)))))
 (.ops [⟨(some 29), none, .mov (tm 9)⟩,
 ⟨(some 30), none, .bin .add 3 (tm 29) (kc 1)⟩,
 ⟨(some 9), none, .mov (tm 30)⟩]))))))
 (.seq
 (.seq
 (.ops [⟨(some 58), none, .mov (tm 6)⟩,
 ⟨(some 59), none, .bin .eql 26 (tm 58) (kc 0)⟩,
 ⟨(some 60), none, .mov (tm 59)⟩,
 ⟨(some 61), some (60, true), .mov (tm 8)⟩,
 ⟨(some 62), some (60, true), .mov (tm 0)⟩,
 ⟨(some 63), some (60, true), .len false 29 3 (tm 62)⟩,
 ⟨(some 64), some (60, true), .bin .lss 3 (tm 61) (tm 63)⟩,
 ⟨(some 65), none, .pick (tm 60) (tm 64) (.const (.bool false))⟩])
 (.ite (tm 65)
 (.ops [⟨(some 6), none, .mov (kc 2)⟩])
 .skip))
 (.seq
 (.seq
 (.ops [⟨(some 66), none, .mov (tm 6)⟩,
 ⟨(some 67), none, .bin .eql 26 (tm 66) (kc 0)⟩,
 ⟨(some 68), none, .mov (tm 67)⟩,
 ⟨(some 69), some (68, true), .mov (tm 7)⟩,
 ⟨(some 70), some (68, true), .len false 29 3 (tm 69)⟩,
 ⟨(some 71), some (68, true), .bin .gtr 3 (tm 70) (kc 15)⟩,
 ⟨(some 72), none, .pick (tm 68) (tm 71) (.const (.bool false))⟩])
 (.ite (tm 72)
 (.ops [⟨(some 6), none, .mov (kc 3)⟩])
 .skip))
 (.seq
 (.seq
 (.ops [⟨(some 73), none, .mov (tm 6)⟩,
 ⟨(some 74), none, .bin .neq 26 (tm 73) (kc 0)⟩])
 (.ite (tm 74)
 (.seq
 (.ops [⟨(some 75), none, .mov (tm 6)⟩,
 ⟨(some 4), none, .mov (.const (.slice none 0 0))⟩,
 ⟨(some 5), none, .mov (tm 75)⟩])
 .ret)
 .skip))
 (.seq
 (.ops [⟨(some 76), none, .mov (tm 7)⟩,
 ⟨(some 4), none, .mov (tm 76)⟩,
 ⟨(some 5), none, .mov (kc 0)⟩])
 .ret))))))))))
theorem fn36 : FnOK Try.prog 36 77 [.tmp 4, .tmp 5] L36 := ⟨Try.f36, Try.func36, by kernel_rfl, Try.ntmps36, by rw [Try.results36], by kernel_rfl⟩
def L48 : LCode :=
 (.seq
 (.ops [⟨(some 2), none, .mov (kc 0)⟩])
 (.seq
 (.seq
 (.ops [⟨(some 3), none, .mov (tm 0)⟩,
 ⟨(some 4), none, .len false 29 3 (tm 3)⟩,
 ⟨(some 5), none, .bin .gtr 3 (tm 4) (kc 15)⟩])
 (.ite (tm 5)
 (.seq
 (.ops [⟨(some 2), none, .mov (kc 3)⟩])
 .ret)
 .skip))
 (.seq
 (.seq
 (.ops [⟨(some 6), none, .mov (tm 0)⟩,
 ⟨(some 7), none, .call 95 [(tm 6)] 4⟩,
 ⟨(some 8), none, .un .not (tm 7)⟩])
 (.ite (tm 8)
 (.seq
 (.ops [⟨(some 2), none, .mov (kc 6)⟩])
 .ret)
 .skip))
 (.seq
 (.ops [⟨(some 2), none, .mov (kc 0)⟩])
 .ret))))
theorem fn48 : FnOK Try.prog 48 9 [.tmp 2] L48 := ⟨Try.f48, Try.func48, by kernel_rfl, Try.ntmps48, by rw [Try.results48], by kernel_rfl⟩
def L50 : LCode :=
 (.seq
 (.ops [⟨(some 2), none, .mov (kc 0)⟩])
 (.seq
 (.ops [⟨(some 3), none, .mov (kc 0)⟩])
 (.seq
 (.seq
 (.ops [⟨(some 4), none, .mov (kc 0)⟩])
 (.block 0
 (.loop
 (.seq
 (.seq
 (.ops [⟨(some 5), none, .mov (tm 4)⟩,
 ⟨(some 6), none, .mov (tm 0)⟩,
 ⟨(some 7), none, .len false 47 3 (tm 6)⟩,
 ⟨(some 8), none, .bin .lss 3 (tm 5) (tm 7)⟩])
 (.ite (tm 8)
 .skip
 (.exit 0)))
 (.seq
 (.block 1
 (.seq
 (.ops [⟨(some 11), none, .mov (tm 0)⟩,
 ⟨(some 12), none, .mov (tm 4)⟩,
 ⟨(some 13), none, .iaddr 47 (tm 11) (tm 12) 2⟩,
 ⟨(some 14), none, .faddr 123 (tm 13) 0 0⟩,
 ⟨(some 15), none, .load 3 (tm 14) none⟩,
 ⟨(some 16), none, .bin .neq 3 (tm 15) (kc 0)⟩])
 (.ite (tm 16)
 (.ops [⟨(some 17), none, .mov (tm 3)⟩,
 ⟨(some 18), none, .bin .add 3 (tm 17) (kc 1)⟩,
 ⟨(some 3), none, .mov (tm 18)⟩])
 .skip)))
 (.ops [⟨(some 9), none, .mov (tm 4)⟩,
 ⟨(some 10), none, .bin .add 3 (tm 9) (kc 1)⟩,
 ⟨(some 4), none, .mov (tm 10)⟩]))))))
 (.seq
 (.ops [⟨(some 19), none, .mov (tm 3)⟩,
 ⟨(some 2), none, .mov (tm 19)⟩])
 .ret))))
theorem fn50 : FnOK Try.prog 50 20 [.tmp 2] L50 := ⟨Try.f50, Try.func50, by kernel_rfl, Try.ntmps50, by rw [Try.results50], by kernel_rfl⟩
def L53 : LCode :=
 (.seq
 (.ops [⟨(some 6), none, .mov (.const (.bool false))⟩])
 (.seq
 (.ops [⟨(some 7), none, .mov (tm 0)⟩,
 ⟨(some 8), none, .mov (tm 1)⟩,
 ⟨(some 9), none, .bin .geq 3 (tm 7) (tm 8)⟩,
 ⟨(some 10), none, .mov (tm 9)⟩,
 ⟨(some 11), some (10, true), .mov (tm 0)⟩,
 ⟨(some 12), some (10, true), .mov (tm 2)⟩,
 ⟨(some 13), some (10, true), .bin .leq 3 (tm 11) (tm 12)⟩,
 ⟨(some 14), none, .pick (tm 10) (tm 13) (.const (.bool false))⟩,
 ⟨(some 6), none, .mov (tm 14)⟩])
 .ret))
theorem fn53 : FnOK Try.prog 53 15 [.tmp 6] L53 := ⟨Try.f53, Try.func53, by kernel_rfl, Try.ntmps53, by rw [Try.results53], by kernel_rfl⟩
def L73 : LCode :=
 (.seq
 (.ops [⟨(some 4), none, .mov (kc 0)⟩])
 (.seq
 (.seq
 (.ops [⟨(some 5), none, .mov (tm 1)⟩,
 ⟨(some 6), none, .bin .eql 26 (tm 5) (kc 0)⟩])
 (.ite (tm 6)
 (.ops [⟨(some 7), none, .mov (tm 0)⟩,
 ⟨(some 8), none, .call 48 [(tm 7)] 26⟩,
 ⟨(some 1), none, .mov (tm 8)⟩])
 .skip))
 (.seq
 (.ops [⟨(some 9), none, .mov (tm 1)⟩,
 ⟨(some 4), none, .mov (tm 9)⟩])
 .ret)))
theorem fn73 : FnOK Try.prog 73 10 [.tmp 4] L73 := ⟨Try.f73, Try.func73, by kernel_rfl, Try.ntmps73, by rw [Try.results73], by kernel_rfl⟩
def L84 : LCode :=
 (.seq
 (.ops [⟨(some 4), none, .mov (.const (.slice none 0 0))⟩])
 (.seq
 (.ops [⟨(some 10), none, .mov (tm 0)⟩,
 ⟨(some 11), none, .mov (tm 1)⟩,
 ⟨(some 12), none, .call 122 [(tm 10), (tm 11)] 154⟩,
 ⟨(some 5), none, .mov (tm 12)⟩])
 (.seq
 (.ops [⟨(some 6), none, .mov (.const (.slice none 0 0))⟩])
 (.seq
 (.ops [⟨(some 7), none, .mov (kc 0)⟩,
 ⟨(some 8), none, .mov (kc 0)⟩])
 (.seq
 (.block 0
 (.loop
 (.seq
 (.seq
 (.ops [⟨(some 13), none, .mov (tm 7)⟩,
 ⟨(some 14), none, .mov (tm 0)⟩,
 ⟨(some 15), none, .len false 29 3 (tm 14)⟩,
 ⟨(some 16), none, .bin .lss 3 (tm 13) (tm 15)⟩,
 ⟨(some 17), none, .mov (tm 16)⟩,
 ⟨(some 18), some (17, false), .mov (tm 8)⟩,
 ⟨(some 19), some (17, false), .mov (tm 1)⟩,
 ⟨(some 20), some (17, false), .len false 29 3 (tm 19)⟩,
 ⟨(some 21), some (17, false), .bin .lss 3 (tm 18) (tm 20)⟩,
 ⟨(some 22), none, .pick (tm 17) (.const (.bool true)) (tm 21)⟩])
 (.ite (tm 22)
 .skip
 (.exit 0)))
 (.block 1
 (.seq
 (.ops [⟨(some 23), none, .mov (tm 5)⟩,
 ⟨(some 24), none, .mov (tm 7)⟩,
 ⟨(some 25), none, .iaddr 154 (tm 23) (tm 24) 1⟩,
 ⟨(some 26), none, .load 35 (tm 25) none⟩,
 ⟨(some 27), none, .mov (tm 8)⟩,
 ⟨(some 28), none, .iaddr 35 (tm 26) (tm 27) 1⟩,
 ⟨(some 29), none, .load 3 (tm 28) none⟩,
 ⟨(some 9), none, .mov (tm 29)⟩])
 (.block 2
 (.seq
 (.dops [(⟨(some 41), none, .mov (tm 7)⟩, []),
 (⟨(some 42), none, .mov (tm 0)⟩, []),
 (⟨(some 43), none, .len false 29 3 (tm 42)⟩, [1]),
 (⟨(some 44), none, .bin .lss 3 (tm 41) (tm 43)⟩, [0, 2]),
 (⟨(some 45), none, .mov (tm 44)⟩, [3]),
 (⟨(some 46), some (45, true), .mov (tm 8)⟩, [4]),
 (⟨(some 47), some (45, true), .mov (tm 1)⟩, [4]),
 (⟨(some 48), some (45, true), .len false 29 3 (tm 47)⟩, [6, 4]),
 (⟨(some 49), some (45, true), .bin .lss 3 (tm 46) (tm 48)⟩, [5, 7, 4]),
 (⟨(some 50), none, .pick (tm 45) (tm 49) (.const (.bool false))⟩, [4, 8]),
 (⟨(some 51), none, .mov (tm 50)⟩, [9, 4]),
 (⟨(some 52), some (51, true), .mov (tm 0)⟩, [10]),
 (⟨(some 53), some (51, true), .mov (tm 7)⟩, [10]),
 (⟨(some 54), some (51, true), .iaddr 29 (tm 52) (tm 53) 1⟩, [11, 12, 10]),
 (⟨(some 55), some (51, true), .load 9 (tm 54) none⟩, [13, 10]),
 (⟨(some 56), some (51, true), .mov (tm 1)⟩, [10]),
 (⟨(some 57), some (51, true), .mov (tm 8)⟩, [10]),
 (⟨(some 58), some (51, true), .iaddr 29 (tm 56) (tm 57) 1⟩, [15, 16, 10]),
 (⟨(some 59), some (51, true), .load 9 (tm 58) none⟩, [17, 10]),
 (⟨(some 60), some (51, true), .bin .eql 9 (tm 55) (tm 59)⟩, [14, 18, 10]),
 (⟨(some 61), none, .pick (tm 51) (tm 60) (.const (.bool false))⟩, [10, 19]),
 (⟨(some 62), none, .mov (tm 61)⟩, [20, 10]),
 (⟨(some 63), some (62, true), .mov (tm 5)⟩, [21]),
 (⟨(some 64), some (62, true), .mov (tm 7)⟩, [21]),
 (⟨(some 65), some (62, true), .bin .add 3 (tm 64) (kc 1)⟩, [23, 21]),
 (⟨(some 66), some (62, true), .iaddr 154 (tm 63) (tm 65) 1⟩, [22, 24, 21]),
 (⟨(some 67), some (62, true), .load 35 (tm 66) none⟩, [25, 21]),
 (⟨(some 68), some (62, true), .mov (tm 8)⟩, [21]),
 (⟨(some 69), some (62, true), .bin .add 3 (tm 68) (kc 1)⟩, [27, 21]),
 (⟨(some 70), some (62, true), .iaddr 35 (tm 67) (tm 69) 1⟩, [26, 28, 21]),
 (⟨(some 71), some (62, true), .load 3 (tm 70) none⟩, [29, 21]),
 (⟨(some 72), some (62, true), .mov (tm 9)⟩, [21]),
 (⟨(some 73), some (62, true), .bin .eql 3 (tm 71) (tm 72)⟩, [30, 31, 21]),
 (⟨(some 74), none, .pick (tm 62) (tm 73) (.const (.bool false))⟩, [21, 32]),
 (⟨(some 40), none, .mov (tm 74)⟩, [33, 21])])
 (.ite (tm 40)
 (.seq
 (.ops [⟨(some 75), none, .mov (tm 6)⟩,
 ⟨(some 76), none, .build 123 [(0, (kc 0))] [(.int .i64 0), (.string ⟨#[]⟩)] [(0, 1, (kc 0))]⟩,
 ⟨(some 77), none, .bslice 47 1 [(0, (tm 76))] 123 2 [(.int .i64 0), (.string ⟨#[]⟩)]⟩,
 ⟨(some 78), none, .append 47 47 (tm 75) (tm 77) 123 2 24 [(.int .i64 0), (.string ⟨#[]⟩)]⟩,
 ⟨(some 6), none, .mov (tm 78)⟩])
 (.ops [⟨(some 79), none, .mov (tm 7)⟩,
 ⟨(some 80), none, .bin .add 3 (tm 79) (kc 1)⟩,
 ⟨(some 81), none, .mov (tm 8)⟩,
 ⟨(some 82), none, .bin .add 3 (tm 81) (kc 1)⟩,
 ⟨(some 7), none, .mov (tm 80)⟩,
 ⟨(some 8), none, .mov (tm 82)⟩]))
 (.seq
 (.dops [(⟨(some 84), none, .mov (tm 7)⟩, []),
 (⟨(some 85), none, .mov (tm 0)⟩, []),
 (⟨(some 86), none, .len false 29 3 (tm 85)⟩, [1]),
 (⟨(some 87), none, .bin .lss 3 (tm 84) (tm 86)⟩, [0, 2]),
 (⟨(some 88), none, .mov (tm 87)⟩, [3]),
 (⟨(some 89), some (88, true), .mov (tm 8)⟩, [4]),
 (⟨(some 90), some (88, true), .mov (tm 1)⟩, [4]),
 (⟨(some 91), some (88, true), .len false 29 3 (tm 90)⟩, [6, 4]),
 (⟨(some 92), some (88, true), .bin .lss 3 (tm 89) (tm 91)⟩, [5, 7, 4]),
 (⟨(some 93), none, .pick (tm 88) (tm 92) (.const (.bool false))⟩, [4, 8]),
 (⟨(some 94), none, .mov (tm 93)⟩, [9, 4]),
 (⟨(some 95), some (94, true), .mov (tm 0)⟩, [10]),
 (⟨(some 96), some (94, true), .mov (tm 7)⟩, [10]),
 (⟨(some 97), some (94, true), .iaddr 29 (tm 95) (tm 96) 1⟩, [11, 12, 10]),
 (⟨(some 98), some (94, true), .load 9 (tm 97) none⟩, [13, 10]),
 (⟨(some 99), some (94, true), .mov (tm 1)⟩, [10]),
 (⟨(some 100), some (94, true), .mov (tm 8)⟩, [10]),
 (⟨(some 101), some (94, true), .iaddr 29 (tm 99) (tm 100) 1⟩, [15, 16, 10]),
 (⟨(some 102), some (94, true), .load 9 (tm 101) none⟩, [17, 10]),
 (⟨(some 103), some (94, true), .bin .neq 9 (tm 98) (tm 102)⟩, [14, 18, 10]),
 (⟨(some 104), none, .pick (tm 94) (tm 103) (.const (.bool false))⟩, [10, 19]),
 (⟨(some 105), none, .mov (tm 104)⟩, [20, 10]),
 (⟨(some 106), some (105, true), .mov (tm 5)⟩, [21]),
 (⟨(some 107), some (105, true), .mov (tm 7)⟩, [21]),
 (⟨(some 108), some (105, true), .bin .add 3 (tm 107) (kc 1)⟩, [23, 21]),
 (⟨(some 109), some (105, true), .iaddr 154 (tm 106) (tm 108) 1⟩, [22, 24, 21]),
 (⟨(some 110), some (105, true), .load 35 (tm 109) none⟩, [25, 21]),
 (⟨(some 111), some (105, true), .mov (tm 8)⟩, [21]),
 (⟨(some 112), some (105, true), .bin .add 3 (tm 111) (kc 1)⟩, [27, 21]),
 (⟨(some 113), some (105, true), .iaddr 35 (tm 110) (tm 112) 1⟩, [26, 28, 21]),
 (⟨(some 114), some (105, true), .load 3 (tm 113) none⟩, [29, 21]),
 (⟨(some 115), some (105, true), .bin .add 3 (tm 114) (kc 1)⟩, [30, 21]),
 (⟨(some 116), some (105, true), .mov (tm 9)⟩, [21]),
 (⟨(some 117), some (105, true), .bin .eql 3 (tm 115) (tm 116)⟩, [31, 32, 21]),
 (⟨(some 118), none, .pick (tm 105) (tm 117) (.const (.bool false))⟩, [21, 33]),
 (⟨(some 83), none, .mov (tm 118)⟩, [34, 21])])
 (.ite (tm 83)
 (.seq
 (.ops [⟨(some 119), none, .mov (tm 6)⟩,
 ⟨(some 120), none, .mov (tm 1)⟩,
 ⟨(some 121), none, .mov (tm 8)⟩,
 ⟨(some 122), none, .iaddr 29 (tm 120) (tm 121) 1⟩,
 ⟨(some 123), none, .load 9 (tm 122) none⟩,
 ⟨(some 124), none, .build 123 [(0, (kc 1)), (1, (tm 123))] [(.int .i64 0), (.string ⟨#[]⟩)] [(0, 1, (kc 1)), (1, 1, (tm 123))]⟩,
 ⟨(some 125), none, .bslice 47 1 [(0, (tm 124))] 123 2 [(.int .i64 0), (.string ⟨#[]⟩)]⟩,
 ⟨(some 126), none, .append 47 47 (tm 119) (tm 125) 123 2 24 [(.int .i64 0), (.string ⟨#[]⟩)]⟩,
 ⟨(some 6), none, .mov (tm 126)⟩])
 (.ops [⟨(some 127), none, .mov (tm 7)⟩,
 ⟨(some 128), none, .bin .add 3 (tm 127) (kc 1)⟩,
 ⟨(some 129), none, .mov (tm 8)⟩,
 ⟨(some 130), none, .bin .add 3 (tm 129) (kc 1)⟩,
 ⟨(some 7), none, .mov (tm 128)⟩,
 ⟨(some 8), none, .mov (tm 130)⟩]))
 (.seq
 (.ops [⟨(some 132), none, .mov (tm 7)⟩,
 ⟨(some 133), none, .mov (tm 0)⟩,
 ⟨(some 134), none, .len false 29 3 (tm 133)⟩,
 ⟨(some 135), none, .bin .lss 3 (tm 132) (tm 134)⟩,
 ⟨(some 136), none, .mov (tm 135)⟩,
 ⟨(some 137), some (136, true), .mov (tm 5)⟩,
 ⟨(some 138), some (136, true), .mov (tm 7)⟩,
 ⟨(some 139), some (136, true), .bin .add 3 (tm 138) (kc 1)⟩,
 ⟨(some 140), some (136, true), .iaddr 154 (tm 137) (tm 139) 1⟩,
 ⟨(some 141), some (136, true), .load 35 (tm 140) none⟩,
 ⟨(some 142), some (136, true), .mov (tm 8)⟩,
 ⟨(some 143), some (136, true), .iaddr 35 (tm 141) (tm 142) 1⟩,
 ⟨(some 144), some (136, true), .load 3 (tm 143) none⟩,
 ⟨(some 145), some (136, true), .bin .add 3 (tm 144) (kc 1)⟩,
 ⟨(some 146), some (136, true), .mov (tm 9)⟩,
 ⟨(some 147), some (136, true), .bin .eql 3 (tm 145) (tm 146)⟩,
 ⟨(some 148), none, .pick (tm 136) (tm 147) (.const (.bool false))⟩,
 ⟨(some 131), none, .mov (tm 148)⟩])
 (.ite (tm 131)
 (.seq
 (.ops [⟨(some 149), none, .mov (tm 6)⟩,
 ⟨(some 150), none, .build 123 [(0, (kc 2))] [(.int .i64 0), (.string ⟨#[]⟩)] [(0, 1, (kc 2))]⟩,
 ⟨(some 151), none, .bslice 47 1 [(0, (tm 150))] 123 2 [(.int .i64 0), (.string ⟨#[]⟩)]⟩,
 ⟨(some 152), none, .append 47 47 (tm 149) (tm 151) 123 2 24 [(.int .i64 0), (.string ⟨#[]⟩)]⟩,
 ⟨(some 6), none, .mov (tm 152)⟩])
 (.ops [⟨(some 153), none, .mov (tm 7)⟩,
 ⟨(some 154), none, .bin .add 3 (tm 153) (kc 1)⟩,
 ⟨(some 7), none, .mov (tm 154)⟩]))
 (.seq
 (.ops [⟨(some 30), none, .mov (tm 6)⟩,
 ⟨(some 31), none, .mov (tm 1)⟩,
 ⟨(some 32), none, .mov (tm 8)⟩,
 ⟨(some 33), none, .iaddr 29 (tm 31) (tm 32) 1⟩,
 ⟨(some 34), none, .load 9 (tm 33) none⟩,
 ⟨(some 35), none, .build 123 [(0, (kc 3)), (1, (tm 34))] [(.int .i64 0), (.string ⟨#[]⟩)] [(0, 1, (kc 3)), (1, 1, (tm 34))]⟩,
 ⟨(some 36), none, .bslice 47 1 [(0, (tm 35))] 123 2 [(.int .i64 0), (.string ⟨#[]⟩)]⟩,
 ⟨(some 37), none, .append 47 47 (tm 30) (tm 36) 123 2 24 [(.int .i64 0), (.string ⟨#[]⟩)]⟩,
 ⟨(some 6), none, .mov (tm 37)⟩])
 (.ops [⟨(some 38), none, .mov (tm 8)⟩,
 ⟨(some 39), none, .bin .add 3 (tm 38) (kc 1)⟩,
 ⟨(some 8), none, .mov (tm 39)⟩]))))))))))))))
 (.seq
 (.ops [⟨(some 155), none, .mov (tm 6)⟩,
 ⟨(some 4), none, .mov (tm 155)⟩])
 .ret))))))
theorem fn84 : FnOK Try.prog 84 156 [.tmp 4] L84 := ⟨Try.f84, Try.func84, by kernel_rfl, Try.ntmps84, by rw [Try.results84], by kernel_rfl⟩
def L86 : LCode :=
 (.seq
 (.ops [⟨(some 2), none, .box 123 (tm 0)⟩,
 ⟨(some 4), none, .mov (.const (.slice none 0 0))⟩,
 ⟨(some 5), none, .mov (kc 0)⟩])
 (.seq
 (.seq
 (.ops [⟨(some 7), none, .faddr 123 (tm 2) 0 0⟩,
 ⟨(some 8), none, .load 3 (tm 7) none⟩,
 ⟨(some 9), none, .call 53 [(tm 8), (kc 0), (kc 3)] 4⟩,
 ⟨(some 10), none, .un .not (tm 9)⟩])
 (.ite (tm 10)
 (.seq
 (.ops [⟨(some 4), none, .mov (.const (.slice none 0 0))⟩,
 ⟨(some 5), none, .mov (kc 7)⟩])
 .ret)
 .skip))
 (.seq
 (.ops [⟨(some 11), none, .faddr 123 (tm 2) 0 0⟩,
 ⟨(some 12), none, .load 3 (tm 11) none⟩,
 ⟨(some 13), none, .bin .eql 3 (tm 12) (kc 1)⟩,
 ⟨(some 14), none, .mov (tm 13)⟩,
 ⟨(some 15), some (14, false), .faddr 123 (tm 2) 0 0⟩,
 ⟨(some 16), some (14, false), .load 3 (tm 15) none⟩,
 ⟨(some 17), some (14, false), .bin .eql 3 (tm 16) (kc 3)⟩,
 ⟨(some 18), none, .pick (tm 14) (.const (.bool true)) (tm 17)⟩,
 ⟨(some 6), none, .mov (tm 18)⟩])
 (.seq
 (.seq
 (.ops [⟨(some 19), none, .mov (tm 6)⟩,
 ⟨(some 20), none, .mov (tm 19)⟩,
 ⟨(some 21), some (20, true), .faddr 123 (tm 2) 1 1⟩,
 ⟨(some 22), some (20, true), .load 9 (tm 21) none⟩,
 ⟨(some 23), some (20, true), .call 123 [(tm 22)] 4⟩,
 ⟨(some 24), some (20, true), .un .not (tm 23)⟩,
 ⟨(some 25), none, .pick (tm 20) (tm 24) (.const (.bool false))⟩,
 ⟨(some 26), none, .mov (tm 25)⟩,
 ⟨(some 27), some (26, false), .mov (tm 6)⟩,
 ⟨(some 28), some (26, false), .un .not (tm 27)⟩,
 ⟨(some 29), some (26, false), .mov (tm 28)⟩,
 ⟨(some 30), some (29, true), .faddr 123 (tm 2) 1 1⟩,
 ⟨(some 31), some (29, true), .load 9 (tm 30) none⟩,
 ⟨(some 32), some (29, true), .bin .neq 9 (tm 31) (.const (.string ⟨#[]⟩))⟩,
 ⟨(some 33), some (26, false), .pick (tm 29) (tm 32) (.const (.bool false))⟩,
 ⟨(some 34), none, .pick (tm 26) (.const (.bool true)) (tm 33)⟩])
 (.ite (tm 34)
 (.seq
 (.ops [⟨(some 4), none, .mov (.const (.slice none 0 0))⟩,
 ⟨(some 5), none, .mov (kc 6)⟩])
 .ret)
 .skip))
 (.seq
 (.seq
 (.ops [⟨(some 35), none, .faddr 123 (tm 2) 0 0⟩,
 ⟨(some 36), none, .load 3 (tm 35) none⟩,
 ⟨(some 37), none, .bin .eql 3 (tm 36) (kc 3)⟩])
 (.ite (tm 37)
 (.seq
 (.ops [⟨(some 38), none, .faddr 123 (tm 2) 1 1⟩,
 ⟨(some 39), none, .load 9 (tm 38) none⟩,
 ⟨(some 40), none, .bslice 29 1 [(0, (tm 39))] 9 1 [(.string ⟨#[]⟩)]⟩,
 ⟨(some 4), none, .mov (tm 40)⟩,
 ⟨(some 5), none, .mov (kc 0)⟩])
 .ret)
 .skip))
 (.seq
 (.seq
 (.ops [⟨(some 41), none, .mov (tm 1)⟩,
 ⟨(some 42), none, .len false 29 3 (tm 41)⟩,
 ⟨(some 43), none, .bin .eql 3 (tm 42) (kc 0)⟩])
 (.ite (tm 43)
 (.seq
 (.ops [⟨(some 4), none, .mov (.const (.slice none 0 0))⟩,
 ⟨(some 5), none, .mov (kc 4)⟩])
 .ret)
 .skip))
 (.seq
 (.seq
 (.ops [⟨(some 44), none, .faddr 123 (tm 2) 0 0⟩,
 ⟨(some 45), none, .load 3 (tm 44) none⟩,
 ⟨(some 46), none, .bin .eql 3 (tm 45) (kc 2)⟩])
 (.ite (tm 46)
 (.seq
 (.ops [⟨(some 4), none, .mov (.const (.slice none 0 0))⟩,
 ⟨(some 5), none, .mov (kc 0)⟩])
 .ret)
 .skip))
 (.seq
 (.seq
 (.ops [⟨(some 47), none, .faddr 123 (tm 2) 0 0⟩,
 ⟨(some 48), none, .load 3 (tm 47) none⟩,
 ⟨(some 49), none, .bin .eql 3 (tm 48) (kc 0)⟩])
 (.ite (tm 49)
 (.seq
 (.ops [⟨(some 50), none, .mov (tm 1)⟩,
 ⟨(some 51), none, .sliceE 29 (tm 50) none (some (kc 1)) none 1⟩,
 ⟨(some 4), none, .mov (tm 51)⟩,
 ⟨(some 5), none, .mov (kc 0)⟩])
 .ret)
 .skip))
 (.seq
 (.seq
 (.dops [(⟨(some 52), none, .mov (tm 1)⟩, []),
 (⟨(some 53), none, .iaddr 29 (tm 52) (kc 0) 1⟩, [0]),
 (⟨(some 54), none, .load 9 (tm 53) none⟩, [1]),
 (⟨(some 55), none, .faddr 123 (tm 2) 1 1⟩, []),
 (⟨(some 56), none, .load 9 (tm 55) none⟩, [3]),
 (⟨(some 57), none, .bin .eql 9 (tm 54) (tm 56)⟩, [2, 4])])
 (.ite (tm 57)
 (.seq
 (.ops [⟨(some 4), none, .mov (.const (.slice none 0 0))⟩,
 ⟨(some 5), none, .mov (kc 5)⟩])
 .ret)
 .skip))
 (.seq
 (.ops [⟨(some 58), none, .faddr 123 (tm 2) 1 1⟩,
 ⟨(some 59), none, .load 9 (tm 58) none⟩,
 ⟨(some 60), none, .bslice 29 1 [(0, (tm 59))] 9 1 [(.string ⟨#[]⟩)]⟩,
 ⟨(some 4), none, .mov (tm 60)⟩,
 ⟨(some 5), none, .mov (kc 0)⟩])
 .ret))))))))))
theorem fn86 : FnOK Try.prog 86 61 [.tmp 4, .tmp 5] L86 := ⟨Try.f86, Try.func86, by kernel_rfl, Try.ntmps86, by rw [Try.results86], by kernel_rfl⟩
def L95 : LCode :=
 (.seq
 (.ops [⟨(some 2), none, .mov (.const (.bool false))⟩])
 (.seq
 (.ops [⟨(some 3), none, .mov (.const (.bool true))⟩])
 (.seq
 (.seq
 (.ops [⟨(some 4), none, .mov (kc 0)⟩])
 (.block 0
 (.loop
 (.seq
 (.seq
 (.ops [⟨(some 5), none, .mov (tm 4)⟩,
 ⟨(some 6), none, .mov (tm 0)⟩,
 ⟨(some 7), none, .len false 29 3 (tm 6)⟩,
 ⟨(some 8), none, .bin .lss 3 (tm 5) (tm 7)⟩])
 (.ite (tm 8)
 .skip
 (.exit 0)))
 (.seq
 (.block 1
 (.ops [⟨(some 11), none, .mov (tm 3)⟩,
 ⟨(some 12), none, .mov (tm 11)⟩,
 ⟨(some 13), some (12, true), .mov (tm 0)⟩,
 ⟨(some 14), some (12, true), .mov (tm 4)⟩,
 ⟨(some 15), some (12, true), .iaddr 29 (tm 13) (tm 14) 1⟩,
 ⟨(some 16), some (12, true), .load 9 (tm 15) none⟩,
 ⟨(some 17), some (12, true), .call 123 [(tm 16)] 4⟩,
 ⟨(some 18), none, .pick (tm 12) (tm 17) (.const (.bool false))⟩,
 ⟨(some 3), none, .mov (tm 18)⟩]))
 (.ops [⟨(some 9), none, .mov (tm 4)⟩,
 ⟨(some 10), none, .bin .add 3 (tm 9) (kc 1)⟩,
 ⟨(some 4), none, .mov (tm 10)⟩]))))))
 (.seq
 (.ops [⟨(some 19), none, .mov (tm 3)⟩,
 ⟨(some 2), none, .mov (tm 19)⟩])
 .ret))))
theorem fn95 : FnOK Try.prog 95 20 [.tmp 2] L95 := ⟨Try.f95, Try.func95, by kernel_rfl, Try.ntmps95, by rw [Try.results95], by kernel_rfl⟩
def L111 : LCode :=
 (.seq
 (.ops [⟨(some 4), none, .mov (.const (.bool false))⟩])
 (.seq
 (.ops [⟨(some 5), none, .mov (tm 0)⟩,
 ⟨(some 6), none, .bin .eql 9 (tm 5) (.const (.string ⟨#[]⟩))⟩,
 ⟨(some 7), none, .mov (tm 6)⟩,
 ⟨(some 8), some (7, false), .mov (tm 0)⟩,
 ⟨(some 9), some (7, false), .mov (tm 1)⟩,
 ⟨(some 10), some (7, false), .bin .eql 9 (tm 8) (tm 9)⟩,
 ⟨(some 11), none, .pick (tm 7) (.const (.bool true)) (tm 10)⟩,
 ⟨(some 4), none, .mov (tm 11)⟩])
 .ret))
theorem fn111 : FnOK Try.prog 111 12 [.tmp 4] L111 := ⟨Try.f111, Try.func111, by kernel_rfl, Try.ntmps111, by rw [Try.results111], by kernel_rfl⟩
def L122 : LCode :=
 (.seq
 (.ops [⟨(some 4), none, .mov (.const (.slice none 0 0))⟩])
 (.seq
 (.ops [⟨(some 10), none, .mov (tm 0)⟩,
 ⟨(some 11), none, .len false 29 3 (tm 10)⟩,
 ⟨(some 12), none, .bin .add 3 (tm 11) (kc 1)⟩,
 ⟨(some 13), none, .mslice 154 (tm 12) (tm 12) 35 1 24 [(.slice none 0 0)]⟩,
 ⟨(some 5), none, .mov (tm 13)⟩])
 (.seq
 (.seq
 (.ops [⟨(some 14), none, .mov (tm 0)⟩,
 ⟨(some 15), none, .len false 29 3 (tm 14)⟩,
 ⟨(some 6), none, .mov (tm 15)⟩])
 (.block 0
 (.loop
 (.seq
 (.seq
 (.ops [⟨(some 16), none, .mov (tm 6)⟩,
 ⟨(some 17), none, .bin .geq 3 (tm 16) (kc 0)⟩])
 (.ite (tm 17)
 .skip
 (.exit 0)))
 (.seq
 (.block 1
 (.seq
 (.ops [⟨(some 20), none, .mov (tm 1)⟩,
 ⟨(some 21), none, .len false 29 3 (tm 20)⟩,
 ⟨(some 22), none, .bin .add 3 (tm 21) (kc 1)⟩,
 ⟨(some 23), none, .mslice 35 (tm 22) (tm 22) 3 1 8 [(.int .i64 0)]⟩,
 ⟨(some 7), none, .mov (tm 23)⟩])
 (.seq
 (.seq
 (.ops [⟨(some 24), none, .mov (tm 1)⟩,
 ⟨(some 25), none, .len false 29 3 (tm 24)⟩,
 ⟨(some 8), none, .mov (tm 25)⟩])
 (.block 2
 (.loop
 (.seq
 (.seq
 (.ops [⟨(some 26), none, .mov (tm 8)⟩,
 ⟨(some 27), none, .bin .geq 3 (tm 26) (kc 0)⟩])
 (.ite (tm 27)
 .skip
 (.exit 2)))
 (.seq
 (.block 3
 (.seq
 (.ops [⟨(some 9), none, .mov (kc 0)⟩])
 (.seq
 (.block 4
 (.seq
 (.ops [⟨(some 75), none, .mov (tm 6)⟩,
 ⟨(some 76), none, .mov (tm 0)⟩,
 ⟨(some 77), none, .len false 29 3 (tm 76)⟩,
 ⟨(some 78), none, .bin .eql 3 (tm 75) (tm 77)⟩,
 ⟨(some 74), none, .mov (tm 78)⟩])
 (.ite (tm 74)
 (.ops [⟨(some 79), none, .mov (tm 1)⟩,
 ⟨(some 80), none, .len false 29 3 (tm 79)⟩,
 ⟨(some 81), none, .mov (tm 8)⟩,
 ⟨(some 82), none, .bin .sub 3 (tm 80) (tm 81)⟩,
 ⟨(some 9), none, .mov (tm 82)⟩])
 (.seq
 (.ops [⟨(some 84), none, .mov (tm 8)⟩,
 ⟨(some 85), none, .mov (tm 1)⟩,
 ⟨(some 86), none, .len false 29 3 (tm 85)⟩,
 ⟨(some 87), none, .bin .eql 3 (tm 84) (tm 86)⟩,
 ⟨(some 83), none, .mov (tm 87)⟩])
 (.ite (tm 83)
 (.ops [⟨(some 88), none, .mov (tm 0)⟩,
 ⟨(some 89), none, .len false 29 3 (tm 88)⟩,
 ⟨(some 90), none, .mov (tm 6)⟩,
 ⟨(some 91), none, .bin .sub 3 (tm 89) (tm 90)⟩,
 ⟨(some 9), none, .mov (tm 91)⟩])
 (.seq
 (.dops [(⟨(some 30), none, .mov (tm 5)⟩, []),
 (⟨(some 31), none, .mov (tm 6)⟩, []),
 (⟨(some 32), none, .bin .add 3 (tm 31) (kc 1)⟩, [1]),
 (⟨(some 33), none, .iaddr 154 (tm 30) (tm 32) 1⟩, [0, 2]),
 (⟨(some 34), none, .load 35 (tm 33) none⟩, [3]),
 (⟨(some 35), none, .mov (tm 8)⟩, []),
 (⟨(some 36), none, .iaddr 35 (tm 34) (tm 35) 1⟩, [4, 5]),
 (⟨(some 37), none, .load 3 (tm 36) none⟩, [6]),
 (⟨(some 38), none, .mov (tm 7)⟩, []),
 (⟨(some 39), none, .mov (tm 8)⟩, []),
 (⟨(some 40), none, .bin .add 3 (tm 39) (kc 1)⟩, [9]),
 (⟨(some 41), none, .iaddr 35 (tm 38) (tm 40) 1⟩, [8, 10]),
 (⟨(some 42), none, .load 3 (tm 41) none⟩, [11]),
 (⟨(some 43), none, .mov (tm 5)⟩, []),
 (⟨(some 44), none, .mov (tm 6)⟩, []),
 (⟨(some 45), none, .bin .add 3 (tm 44) (kc 1)⟩, [14]),
 (⟨(some 46), none, .iaddr 154 (tm 43) (tm 45) 1⟩, [13, 15]),
 (⟨(some 47), none, .load 35 (tm 46) none⟩, [16]),
 (⟨(some 48), none, .mov (tm 8)⟩, []),
 (⟨(some 49), none, .bin .add 3 (tm 48) (kc 1)⟩, [18]),
 (⟨(some 50), none, .iaddr 35 (tm 47) (tm 49) 1⟩, [17, 19]),
 (⟨(some 51), none, .load 3 (tm 50) none⟩, [20]),
 (⟨(some 52), none, .min [3, 3, 3] 3 [(tm 37), (tm 42), (tm 51)]⟩, [7, 12, 21]),
 (⟨(some 53), none, .bin .add 3 (kc 1) (tm 52)⟩, [22]),
 (⟨(some 9), none, .mov (tm 53)⟩, [23, 0, 1, 2, 3, 4, 5, 6, 7, 8, 9, 10, 11, 12, 13, 14, 15, 16, 17, 18, 19, 20, 21, 22, 23])])
 (.seq
 (.dops [(⟨(some 54), none, .mov (tm 1)⟩, []),
 (⟨(some 55), none, .mov (tm 8)⟩, []),
 (⟨(some 56), none, .iaddr 29 (tm 54) (tm 55) 1⟩, [0, 1]),
 (⟨(some 57), none, .load 9 (tm 56) none⟩, [2]),
 (⟨(some 58), none, .mov (tm 0)⟩, []),
 (⟨(some 59), none, .mov (tm 6)⟩, []),
 (⟨(some 60), none, .iaddr 29 (tm 58) (tm 59) 1⟩, [4, 5]),
 (⟨(some 61), none, .load 9 (tm 60) none⟩, [6]),
 (⟨(some 62), none, .call 111 [(tm 57), (tm 61)] 4⟩, [3, 7])])
 (.ite (tm 62)
 (.ops [⟨(some 63), none, .mov (tm 9)⟩,
 ⟨(some 64), none, .mov (tm 5)⟩,
 ⟨(some 65), none, .mov (tm 6)⟩,
 ⟨(some 66), none, .bin .add 3 (tm 65) (kc 1)⟩,
 ⟨(some 67), none, .iaddr 154 (tm 64) (tm 66) 1⟩,
 ⟨(some 68), none, .load 35 (tm 67) none⟩,
 ⟨(some 69), none, .mov (tm 8)⟩,
 ⟨(some 70), none, .bin .add 3 (tm 69) (kc 1)⟩,
 ⟨(some 71), none, .iaddr 35 (tm 68) (tm 70) 1⟩,
 ⟨(some 72), none, .load 3 (tm 71) none⟩,
 ⟨(some 73), none, .min [3, 3] 3 [(tm 63), (tm 72)]⟩,
 ⟨(some 9), none, .mov (tm 73)⟩])
 .skip))))))))
 (.ops [⟨(some 92), none, .mov (tm 7)⟩,
 ⟨(some 93), none, .mov (tm 8)⟩,
 ⟨(some 94), none, .mov (tm 9)⟩,
 ⟨(some 95), none, .iaddr 35 (tm 92) (tm 93) 1⟩,
 ⟨none, none, .store 3 (tm 95) (tm 94) 1⟩]))))
 (.ops [⟨(some 28), none, .mov (tm 8)⟩,
 ⟨(some 29), none, .bin .sub 3 (tm 28) (kc 1)⟩,
 ⟨(some 8), none, .mov (tm 29)⟩]))))))
 (.ops [⟨(some 96), none, .mov (tm 5)⟩,
 ⟨(some 97), none, .mov (tm 6)⟩,
 ⟨(some 98), none, .mov (tm 7)⟩,
 ⟨(some 99), none, .iaddr 154 (tm 96) (tm 97) 1⟩,
 ⟨none, none, .store 35 (tm 99) (tm 98) 1⟩]))))
 (.ops [⟨(some 18), none, .mov (tm 6)⟩,
 ⟨(some 19), none, .bin .sub 3 (tm 18) (kc 1)⟩,
 ⟨(some 6), none, .mov (tm 19)⟩]))))))
 (.seq
 (.ops [⟨(some 100), none, .mov (tm 5)⟩,
 ⟨(some 4), none, .mov (tm 100)⟩])
 .ret))))
theorem fn122 : FnOK Try.prog 122 101 [.tmp 4] L122 := ⟨Try.f122, Try.func122, by kernel_rfl, Try.ntmps122, by rw [Try.results122], by kernel_rfl⟩
def L123 : LCode :=
 (.seq
 (.ops [⟨(some 2), none, .mov (.const (.bool false))⟩])
 (.seq
 (.seq
 (.ops [⟨(some 4), none, .mov (tm 0)⟩,
 ⟨(some 5), none, .len true 9 3 (tm 4)⟩,
 ⟨(some 6), none, .call 53 [(tm 5), (kc 1), (kc 8)] 4⟩,
 ⟨(some 7), none, .un .not (tm 6)⟩])
 (.ite (tm 7)
 (.seq
 (.ops [⟨(some 2), none, .mov (.const (.bool false))⟩])
 .ret)
 .skip))
 (.seq
 (.seq
 (.ops [⟨(some 3), none, .mov (kc 0)⟩])
 (.block 0
 (.loop
 (.seq
 (.seq
 (.ops [⟨(some 8), none, .mov (tm 3)⟩,
 ⟨(some 9), none, .mov (tm 0)⟩,
 ⟨(some 10), none, .len true 9 3 (tm 9)⟩,
 ⟨(some 11), none, .bin .lss 3 (tm 8) (tm 10)⟩])
 (.ite (tm 11)
 .skip
 (.exit 0)))
 (.seq
 (.block 1
 (.seq
 (.ops [⟨(some 14), none, .mov (tm 0)⟩,
 ⟨(some 15), none, .mov (tm 3)⟩,
 ⟨(some 16), none, .indexS 9 (tm 14) (tm 15)⟩,
 ⟨(some 17), none, .bin .lss 5 (tm 16) (.const (.int .u8 97))⟩,
 ⟨(some 18), none, .mov (tm 17)⟩,
 ⟨(some 19), some (18, false), .mov (tm 0)⟩,
 ⟨(some 20), some (18, false), .mov (tm 3)⟩,
 ⟨(some 21), some (18, false), .indexS 9 (tm 19) (tm 20)⟩,
 ⟨(some 22), some (18, false), .bin .gtr 5 (tm 21) (.const (.int .u8 122))⟩,
 ⟨(some 23), none, .pick (tm 18) (.const (.bool true)) (tm 22)⟩])
 (.ite (tm 23)
 (.seq
 (.ops [⟨(some 2), none, .mov (.const (.bool false))⟩])
 .ret)
 .skip)))
 (.ops [⟨(some 12), none, .mov (tm 3)⟩,
 ⟨(some 13), none, .bin .add 3 (tm 12) (kc 1)⟩,
 ⟨(some 3), none, .mov (tm 13)⟩]))))))
 (.seq
 (.ops [⟨(some 2), none, .mov (.const (.bool true))⟩])
 .ret))))
theorem fn123 : FnOK Try.prog 123 24 [.tmp 2] L123 := ⟨Try.f123, Try.func123, by kernel_rfl, Try.ntmps123, by rw [Try.results123], by kernel_rfl⟩
end Go.Px

namespace Go.Px
open Go.Proofs
theorem in_ev (n lo hi : Int) : Ev Try.prog 53 [I n, I lo, I hi] (B (decide (lo ≤ n) && decide (n ≤ hi))) := by
  refine Ev.intro fn53 ?_
  refine LWp.sx (gs := []) (hs := []) rfl trivial ?_
  by_cases h : lo ≤ n
  · refine LWp.sx (gs := [(10, true)]) (hs := []) rfl (by simp [h]) ?_
    refine LWp.ret (retT (.inr rfl) (.one (.tmp ?_ rfl)))
    show B _ = B _
    simp [h]
  · refine LWp.sx (gs := [(10, false)]) (hs := []) rfl (by simp [h]) ?_
    refine LWp.ret (retT (.inr rfl) (.one (.tmp ?_ rfl)))
    show B _ = B _
    simp [h]
end Go.Px

namespace Go.Px
open Go.Proofs
theorem inB_not (n lo hi : Int) : (!(decide (lo ≤ n) && decide (n ≤ hi))) = beyondB lo hi [n] := by
  rw [Bool.eq_iff_iff]; simp [beyondB]
end Go.Px

namespace Go.Px
theorem fit_eq {s w : Wd} (h : s ≠ []) : fitB s w = true ↔ s = w := by
  simp [fitB, h]
end Go.Px

namespace Go.Px
theorem words_ne {l : List Wd} (h : wordsB l = true) : NE l := fun w hw => word_ne (List.all_eq_true.1 h w hw)
theorem letter_ne {l : List Wd} (h : letterE l = 0) : NE l := words_ne (letter_zero.1 h).2
def corr (ms : List Mark) : Nat := ms.countP fun m => decide (m.k ≠ 0)
theorem ap_apply {ms : List Mark} {ws out : List Wd} (h : Ap ms ws out) : ∀ pre : List Wd, (pre ++ out).length ≤ 15 → applyG ms ws pre = (pre ++ out, 0) := by
  induction h with
  | nil =>
    intro pre hp
    rw [List.append_nil] at hp
    simp only [applyG, ne_eq, not_true_eq_false, if_false, List.append_nil]
    rw [if_neg (by omega)]
  | @keep ms w ws out _ ih =>
    intro pre hp
    have := ih (pre ++ [w]) (by simpa using hp)
    simp only [applyG]
    rw [if_pos (by simp [markE])]
    simp only [markO, markL]
    simpa using this
  | @turn ms w ws v out hv hne _ ih =>
    intro pre hp
    have := ih (pre ++ [v]) (by simpa using hp)
    simp only [applyG]
    rw [if_pos (by simp [markE, hv, hne])]
    simp only [markO, markL]
    simpa using this
  | @drop ms w ws out _ ih =>
    intro pre hp
    have := ih pre hp
    simp only [applyG]
    rw [if_pos (by simp [markE])]
    simp only [markO, markL]
    simpa using this
  | @put ms ws v out hv _ ih =>
    intro pre hp
    have := ih (pre ++ [v]) (by simpa using hp)
    simp only [applyG]
    rw [if_pos (by simp [markE, hv])]
    simp only [markO, markL]
    simpa using this
theorem ap_applyR {ms : List Mark} {ws out : List Wd} (h : Ap ms ws out) (hl : letterE ws = 0) (hm : ms.length ≤ 30) (ho : out.length ≤ 15) : applyR ws ms = (out, 0) := by
  unfold applyR
  rw [if_pos hl, if_neg (by omega)]
  simpa using ap_apply h [] (by simpa using ho)
theorem marks_ap : ∀ (f : Nat) (ws ss : List Wd), ws.length + ss.length ≤ f → wordsB ss = true → Ap (marksF f ws ss) ws ss ∧ corr (marksF f ws ss) = far ws ss ∧ (marksF f ws ss).length ≤ ws.length + ss.length
  | 0, [], [], _, _ => ⟨.nil, rfl, Nat.le_refl _⟩
  | 0, _ :: _, _, h, _ => by simp at h
  | 0, [], _ :: _, h, _ => by simp at h
  | f + 1, [], [], _, _ => ⟨.nil, rfl, Nat.zero_le _⟩
  | f + 1, [], s :: ss, h, hs => by
    simp only [wordsB, List.all_cons, Bool.and_eq_true] at hs
    obtain ⟨h1, h2, h3⟩ := marks_ap f [] ss (by simp at h ⊢; omega) hs.2
    have e : marksF (f + 1) [] (s :: ss) = ⟨3, s⟩ :: marksF f [] ss := by simp [marksF, kindF]
    rw [e]
    refine ⟨.put hs.1 h1, ?_, by simp at h3 ⊢; omega⟩
    have : corr (⟨3, s⟩ :: marksF f [] ss) = corr (marksF f [] ss) + 1 := by simp [corr]
    rw [this, h2]; simp [far]
  | f + 1, w :: ws, [], h, hs => by
    obtain ⟨h1, h2, h3⟩ := marks_ap f ws [] (by simp at h ⊢; omega) hs
    have e : marksF (f + 1) (w :: ws) [] = ⟨2, []⟩ :: marksF f ws [] := by simp [marksF, kindF]
    rw [e]
    refine ⟨.drop h1, ?_, by simp at h3 ⊢; omega⟩
    have : corr (⟨2, []⟩ :: marksF f ws []) = corr (marksF f ws []) + 1 := by simp [corr]
    rw [this, h2, far_nil, far_nil]; simp
  | f + 1, w :: ws, s :: ss, h, hs => by
    have hs0 := hs
    simp only [wordsB, List.all_cons, Bool.and_eq_true] at hs
    simp only [List.length_cons] at h
    have hne := word_ne hs.1
    obtain ⟨a1, a2, a3⟩ := marks_ap f ws ss (by omega) hs.2
    obtain ⟨b1, b2, b3⟩ := marks_ap f ws (s :: ss) (by simp; omega) hs0
    obtain ⟨c1, c2, c3⟩ := marks_ap f (w :: ws) ss (by simp; omega) hs.2
    have hk : kindF (w :: ws) (s :: ss) = if fitB s w = true then (if far ws ss ≤ 1 + far ws (s :: ss) ∧ far ws ss ≤ 1 + far (w :: ws) ss then 0 else if far ws (s :: ss) ≤ far (w :: ws) ss then 2 else 3)
      else (if far ws ss ≤ far ws (s :: ss) ∧ far ws ss ≤ far (w :: ws) ss then 1 else if far ws (s :: ss) ≤ far (w :: ws) ss then 2 else 3) := rfl
    simp only [marksF, List.tail_cons, List.headD_cons]
    rw [far_cons]
    simp only [List.length_cons] at b3 c3
    have e2 : corr (⟨2, []⟩ :: marksF f ws (s :: ss)) = corr (marksF f ws (s :: ss)) + 1 := by simp [corr]
    have e3 : corr (⟨3, s⟩ :: marksF f (w :: ws) ss) = corr (marksF f (w :: ws) ss) + 1 := by simp [corr]
    by_cases hf : fitB s w = true
    · have hsw : s = w := (fit_eq hne).1 hf
      rw [if_pos hf] at hk
      rw [if_pos hf]
      by_cases g1 : far ws ss ≤ 1 + far ws (s :: ss) ∧ far ws ss ≤ 1 + far (w :: ws) ss
      · rw [if_pos g1] at hk
        rw [hk]
        simp only [if_true]
        refine ⟨by rw [hsw]; exact .keep a1, ?_, by simp; omega⟩
        have e0 : corr (⟨0, []⟩ :: marksF f ws ss) = corr (marksF f ws ss) := by simp [corr]
        rw [e0, a2]; omega
      · rw [if_neg g1] at hk
        by_cases g2 : far ws (s :: ss) ≤ far (w :: ws) ss
        · rw [if_pos g2] at hk
          rw [hk]
          simp only [if_true, show ¬ (2 = 0) by decide, show ¬ (2 = 1) by decide, if_false]
          exact ⟨.drop b1, by rw [e2, b2]; omega, by simp; omega⟩
        · rw [if_neg g2] at hk
          rw [hk]
          simp only [if_true, show ¬ (3 = 0) by decide, show ¬ (3 = 1) by decide, show ¬ (3 = 2) by decide, if_false]
          exact ⟨.put hs.1 c1, by rw [e3, c2]; omega, by simp; omega⟩
    · have hsw : s ≠ w := fun e => hf ((fit_eq hne).2 e)
      rw [if_neg hf] at hk
      rw [if_neg hf]
      by_cases g1 : far ws ss ≤ far ws (s :: ss) ∧ far ws ss ≤ far (w :: ws) ss
      · rw [if_pos g1] at hk
        rw [hk]
        simp only [if_true, show ¬ (1 = 0) by decide, if_false]
        refine ⟨.turn hs.1 hsw a1, ?_, by simp; omega⟩
        have e1 : corr (⟨1, s⟩ :: marksF f ws ss) = corr (marksF f ws ss) + 1 := by simp [corr]
        rw [e1, a2]; omega
      · rw [if_neg g1] at hk
        by_cases g2 : far ws (s :: ss) ≤ far (w :: ws) ss
        · rw [if_pos g2] at hk
          rw [hk]
          simp only [if_true, show ¬ (2 = 0) by decide, show ¬ (2 = 1) by decide, if_false]
          exact ⟨.drop b1, by rw [e2, b2]; omega, by simp; omega⟩
        · rw [if_neg g2] at hk
          rw [hk]
          simp only [if_true, show ¬ (3 = 0) by decide, show ¬ (3 = 1) by decide, show ¬ (3 = 2) by decide, if_false]
          exact ⟨.put hs.1 c1, by rw [e3, c2]; omega, by simp; omega⟩
theorem fewest_apply {a b : List Wd} (ha : letterE a = 0) (hb : letterE b = 0) : applyR a (marksF (a.length + b.length) a b) = (b, 0) ∧ corr (marksF (a.length + b.length) a b) = far a b := by
  obtain ⟨h1, h2, h3⟩ := marks_ap (a.length + b.length) a b (Nat.le_refl _) (letter_zero.1 hb).2
  have := (letter_zero.1 ha).1
  have := (letter_zero.1 hb).1
  exact ⟨ap_applyR h1 ha (by omega) (by omega), h2⟩
end Go.Px

namespace Go.Px
open Go.Proofs
theorem inB_of (n lo hi : Int) : (decide (lo ≤ n) && decide (n ≤ hi)) = !beyondB lo hi [n] := by
  rw [← inB_not]; simp
theorem rWord_ev (l : Wd) : Ev Try.prog 123 [Str l] (B (wordB l)) := by
  refine Ev.intro fn123 ?_
  refine LWp.sx (gs := []) (hs := []) rfl trivial ?_
  have hin := in_ev l.length 1 8
  rw [inB_of] at hin
  refine LWp.seq (LWp.seq ?_)
  refine LWp.x (gs := []) (hs := [.ret (B (!beyondB 1 8 [(l.length : Int)]))]) rfl ⟨hin, trivial⟩ ?_
  have hwe := wordB_eq l
  have hb8 : beyondB 1 8 [(l.length : Int)] = false → l.length ≤ 8 := fun h => by simp [beyondB] at h; omega
  generalize beyondB 1 8 [(l.length : Int)] = bb at hwe hb8
  refine LWp.ite rfl (fun h => ?_) (fun h => LWp.skip ?_)
  · have h : bb = true := by simpa using h
    refine LWp.sx (gs := []) (hs := []) rfl trivial ?_
    refine LWp.ret (retT (.inr rfl) (.one (.tmp ?_ rfl)))
    rw [hwe, h]; rfl
  · have h : bb = false := by simpa using h
    have hl8 := hb8 h
    rw [h, Bool.not_false, Bool.true_and] at hwe
    refine LWp.seq (LWp.seq ?_)
    refine LWp.x (gs := []) (hs := []) rfl trivial ?_
    refine LWp.blockT (fun _ : Unit => l.all (fun c => lowB c.toNat) = true) (fun _ => el []) (fun _ => []) (fun _ => []) ?_ ?_
    · refine LWp.loopN (fun k : Nat => k ≤ l.length ∧ l.all (fun c => lowB c.toNat) = (l.drop k).all (fun c => lowB c.toNat)) (fun k => el [(0, Str l), (3, I k)]) (fun _ => []) (fun _ => []) (fun k => l.length - k) 0 ⟨by omega, rfl⟩
        (Ent.el ⟨rfl, rfl, trivial⟩) ?_
      rintro k ⟨hk, hi⟩
      refine LWp.seq (LWp.seq ?_)
      refine LWp.x (gs := []) (hs := []) rfl trivial ?_
      refine LWp.ite rfl (fun hc => ?_) (fun hc => ?_)
      · have hc : k < l.length := by simpa [ByteArray.size] using hc
        obtain ⟨c, hcc⟩ := ex_get hc
        rw [drop_cons hcc, List.all_cons] at hi
        refine LWp.skip ?_
        refine LWp.blockX (fun _ : Unit => lowB c.toNat = true) (fun _ => el [(0, Str l), (3, I k)]) (fun _ => []) (fun _ => []) ?_ ?_
        · have hby : (⟨l.toArray⟩ : ByteArray).data.toList[((k : Nat) : Int).toNat]? = some c := by simpa using hcc
          refine LWp.seq ?_
          by_cases h1 : (c.toNat : Int) < 97
          · have g1 : decide ((c.toNat : Int) < 97) = true := decide_eq_true h1
            refine LWp.x (gs := [(18, true)]) (hs := [.byte c]) rfl (by (repeat' (with_reducible apply And.intro)); (all_goals try first | (with_reducible exact trivial) | (with_reducible rfl) | (with_reducible assumption) | ((with_reducible apply isB); first | exact rfl | exact beq_self_eq_true _)); exact (by omega)) ?_
            refine LWp.ite (b := true) rfl (fun _ => ?_) (fun h => by cases h)
            refine LWp.sx (gs := []) (hs := []) rfl trivial ?_
            refine LWp.ret (retT (.inr rfl) (.one (.tmp ?_ rfl)))
            have : lowB c.toNat = false := by simp [lowB]; omega
            rw [hwe, hi, this]; rfl
          · have g1 : decide ((c.toNat : Int) < 97) = false := decide_eq_false h1
            refine LWp.x (gs := [(18, false)]) (hs := [.byte c, .byte c]) rfl (by (repeat' (with_reducible apply And.intro)); (all_goals try first | (with_reducible exact trivial) | (with_reducible rfl) | (with_reducible assumption) | ((with_reducible apply isB); first | exact rfl | exact beq_self_eq_true _)); exact (by omega); exact (by omega)) ?_
            refine LWp.ite rfl (fun h2 => ?_) (fun h2 => LWp.skip ?_)
            · refine LWp.sx (gs := []) (hs := []) rfl trivial ?_
              refine LWp.ret (retT (.inr rfl) (.one (.tmp ?_ rfl)))
              have : lowB c.toNat = false := by simp at h2; simp [lowB]; omega
              rw [hwe, hi, this]; rfl
            · refine ⟨(), ?_, Ent.el ⟨rfl, rfl, trivial⟩⟩
              simp at h2; simp [lowB]; omega
        · intro _ hl
          refine LWp.x (gs := []) (hs := []) rfl ⟨by omega, trivial⟩ ?_
          exact ⟨k + 1, ⟨by omega, by rw [hi, hl, Bool.true_and]⟩, by omega, Ent.el ⟨rfl, rfl, trivial⟩⟩
      · have hc : ¬ k < l.length := by simpa [ByteArray.size] using hc
        refine LWp.exit ⟨(), ?_, Ent.el trivial⟩
        rw [hi, drop_nil hc]; rfl
    · intro _ hl
      refine LWp.sx (gs := []) (hs := []) rfl trivial ?_
      refine LWp.ret (retT (.inr rfl) (.one (.tmp ?_ rfl)))
      rw [hwe, hl]
      rfl
theorem rwords_ev (l : List Wd) : Ev Try.prog 95 [strs l] (B (wordsB l)) := by
  refine Ev.intro fn95 ?_
  refine LWp.slLen 0 rfl fun hll => ?_
  simp only [List.length_map] at hll
  refine LWp.sx (gs := []) (hs := []) rfl trivial ?_
  refine LWp.sx (gs := []) (hs := []) rfl trivial ?_
  refine LWp.seq (LWp.seq ?_)
  refine LWp.x (gs := []) (hs := []) rfl trivial ?_
  refine LWp.blockT (fun _ : Unit => True) (fun _ => el [(3, B (wordsB l))]) (fun _ => []) (fun _ => []) ?_ ?_
  · refine LWp.loopN (X := Nat × Bool) (fun x => x.1 ≤ l.length ∧ wordsB l = (x.2 && wordsB (l.drop x.1))) (fun x => el [(0, strs l), (3, B x.2), (4, I x.1)]) (fun _ => []) (fun _ => []) (fun x => l.length - x.1) (0, true) ⟨by simp, by simp⟩
      (Ent.el ⟨rfl, rfl, rfl, trivial⟩) ?_
    rintro ⟨k, f⟩ ⟨hk, hi⟩
    simp only at hk hi ⊢
    refine LWp.seq (LWp.seq ?_)
    refine LWp.x (gs := []) (hs := []) rfl trivial ?_
    refine LWp.ite rfl (fun hc => ?_) (fun hc => ?_)
    · simp only [List.length_map, decide_eq_true_eq, Int.ofNat_lt] at hc
      obtain ⟨s, hs⟩ := ex_get hc
      rw [drop_cons hs] at hi
      have hi : wordsB l = ((f && wordB s) && wordsB (l.drop (k + 1))) := by rw [hi, Bool.and_assoc]; rfl
      refine LWp.skip ?_
      refine LWp.blockX (fun _ : Unit => True) (fun _ => el [(0, strs l), (3, B (f && wordB s)), (4, I k)]) (fun _ => []) (fun _ => []) ?_ ?_
      · cases f with
        | false =>
          refine LWp.x (gs := [(12, false)]) (hs := []) rfl (by (repeat' (with_reducible apply And.intro)); (all_goals try first | (with_reducible exact trivial) | (with_reducible rfl) | (with_reducible assumption) | ((with_reducible apply isB); first | exact rfl | exact beq_self_eq_true _))) ?_
          exact ⟨(), trivial, Ent.el ⟨rfl, rfl, rfl, trivial⟩⟩
        | true =>
          refine LWp.x (gs := [(12, true)]) (hs := [.cells [Str s], .ret (B (wordB s))]) rfl (by (repeat' (with_reducible apply And.intro)); (all_goals try first | (with_reducible exact trivial) | (with_reducible rfl) | (with_reducible assumption) | ((with_reducible apply isB); first | exact rfl | exact beq_self_eq_true _)); exact (by omega); exact (by simp [hs]); exact rWord_ev s) ?_
          exact ⟨(), trivial, Ent.el ⟨rfl, rfl, rfl, trivial⟩⟩
      · intro _ _
        refine LWp.x (gs := []) (hs := []) rfl ⟨by omega, trivial⟩ ?_
        exact ⟨(k + 1, f && wordB s), ⟨by simp only; omega, hi⟩, by simp only; omega, Ent.el ⟨rfl, rfl, rfl, trivial⟩⟩
    · simp only [List.length_map, decide_eq_false_iff_not, Int.ofNat_lt] at hc
      refine LWp.exit ⟨(), trivial, Ent.el ⟨?_, trivial⟩⟩
      rw [hi, drop_nil hc]
      show B _ = B _
      simp [wordsB]
  · intro _ _
    refine LWp.sx (gs := []) (hs := []) rfl trivial ?_
    refine LWp.ret (retT (.inr rfl) (.one (.tmp ?_ rfl)))
    rfl
theorem rLetter_ev (l : List Wd) : Ev Try.prog 48 [strs l] (I (letterE l)) := by
  refine Ev.intro fn48 ?_
  refine LWp.sx (gs := []) (hs := []) rfl trivial ?_
  refine LWp.seq (LWp.seq ?_)
  refine LWp.x (gs := []) (hs := []) rfl trivial ?_
  refine LWp.ite rfl (fun h => ?_) (fun h => LWp.skip ?_)
  · have h : 15 < l.length := by simp at h; omega
    refine LWp.sx (gs := []) (hs := []) rfl trivial ?_
    refine LWp.ret (retT (.inr rfl) (.one (.tmp ?_ rfl)))
    show I _ = I _
    unfold letterE
    rw [if_pos h]
  · have h : ¬ 15 < l.length := by simp at h; omega
    refine LWp.seq (LWp.seq ?_)
    refine LWp.x (gs := []) (hs := [.ret (B (wordsB l))]) rfl ⟨rwords_ev l, trivial⟩ ?_
    refine LWp.ite rfl (fun hw => ?_) (fun hw => LWp.skip ?_)
    · have hw : wordsB l = false := by simpa using hw
      refine LWp.sx (gs := []) (hs := []) rfl trivial ?_
      refine LWp.ret (retT (.inr rfl) (.one (.tmp ?_ rfl)))
      show I _ = I _
      unfold letterE
      rw [if_neg h, if_neg (by simp [hw])]
    · have hw : wordsB l = true := by simpa using hw
      refine LWp.sx (gs := []) (hs := []) rfl trivial ?_
      refine LWp.ret (retT (.inr rfl) (.one (.tmp ?_ rfl)))
      show I _ = I _
      unfold letterE
      rw [if_neg h, if_pos hw]
end Go.Px

namespace Go.Px
open Go.Proofs
theorem rfits_ev (s w : Wd) : Ev Try.prog 111 [Str s, Str w] (B (fitB s w)) := by
  refine Ev.intro fn111 ?_
  refine LWp.sx (gs := []) (hs := []) rfl trivial ?_
  by_cases h : s = []
  · subst h
    refine LWp.sx (gs := [(7, true)]) (hs := []) rfl (by simp) ?_
    refine LWp.ret (retT (.inr rfl) (.one (.tmp ?_ rfl)))
    rfl
  · refine LWp.sx (gs := [(7, false)]) (hs := []) rfl (by simp [h]) ?_
    refine LWp.ret (retT (.inr rfl) (.one (.tmp ?_ rfl)))
    show B _ = B _
    have e : (s == w) = decide (s = w) := by rw [Bool.eq_iff_iff]; simp
    simp [fitB, h]
    exact e
theorem rthen_ev (l : List Wd) (e : Int) : Ev Try.prog 73 [strs l, I e] (I (thenE e l)) := by
  refine Ev.intro fn73 ?_
  have hl := rLetter_ev l
  refine LWp.sx (gs := []) (hs := []) rfl trivial ?_
  refine LWp.cutX (fun _ : Unit => True) (fun _ => el [(1, I (thenE e l))]) (fun _ => []) (fun _ => []) ?_ ?_
  · refine LWp.sx (gs := []) (hs := []) rfl trivial ?_
    refine LWp.ite rfl (fun h => ?_) (fun h => ?_)
    · have h : e = 0 := by simpa using h
      refine LWp.x (gs := []) (hs := [.ret (I (letterE l))]) rfl ⟨hl, trivial⟩ ?_
      exact ⟨(), trivial, Ent.el ⟨by rw [thenE, if_pos h]; rfl, trivial⟩⟩
    · have h : ¬ e = 0 := by simpa using h
      exact LWp.skip ⟨(), trivial, Ent.el ⟨by rw [thenE, if_neg h]; rfl, trivial⟩⟩
  intro _ _
  refine LWp.sx (gs := []) (hs := []) rfl trivial ?_
  refine LWp.ret (retT (.inr rfl) (.one (.tmp ?_ rfl)))
  rfl
end Go.Px

namespace Go.Px
open Go.Proofs
def tblRow (F S : List Wd) (i : Nat) : List Int := (List.range (S.length + 1)).map fun k => ((far (F.drop i) (S.drop k) : Nat) : Int)
def tbl (F S : List Wd) : List (List Int) := (List.range (F.length + 1)).map (tblRow F S)
abbrev tblV (t : List (List Int)) : AV := .sl 1 (t.map fun r => [ints r])
def rowsE (F S : List Wd) (n : Nat) : List (List AV) := (List.range (F.length + 1)).map fun j => if j < n then [AV.v (.slice none 0 0)] else [ints (tblRow F S j)]
def entsE (F S : List Wd) (i m : Nat) : List (List AV) := (List.range (S.length + 1)).map fun j => if j < m then [I 0] else [I (far (F.drop i) (S.drop j) : Nat)]
theorem rowsE_len (F S : List Wd) (n : Nat) : (rowsE F S n).length = F.length + 1 := by simp [rowsE]
theorem entsE_len (F S : List Wd) (i m : Nat) : (entsE F S i m).length = S.length + 1 := by simp [entsE]
theorem rowsE_get (F S : List Wd) {n j : Nat} (h : j ≤ F.length) (h2 : n ≤ j) : (rowsE F S n)[j]? = some [ints (tblRow F S j)] := by
  unfold rowsE
  rw [List.getElem?_map, List.getElem?_range (by omega), Option.map_some, if_neg (by omega)]
theorem rowsE_get0 (F S : List Wd) {n j : Nat} (h : j ≤ F.length) (h2 : j < n) : (rowsE F S n)[j]? = some [AV.v (.slice none 0 0)] := by
  unfold rowsE
  rw [List.getElem?_map, List.getElem?_range (by omega), Option.map_some, if_pos h2]
theorem entsE_get (F S : List Wd) {i m j : Nat} (h : j ≤ S.length) (h2 : m ≤ j) : (entsE F S i m)[j]? = some [I (far (F.drop i) (S.drop j) : Nat)] := by
  unfold entsE
  rw [List.getElem?_map, List.getElem?_range (by omega), Option.map_some, if_neg (by omega)]
theorem entsE_get0 (F S : List Wd) {i m j : Nat} (h : j ≤ S.length) (h2 : j < m) : (entsE F S i m)[j]? = some [I 0] := by
  unfold entsE
  rw [List.getElem?_map, List.getElem?_range (by omega), Option.map_some, if_pos h2]
theorem rowsE_set (F S : List Wd) {n : Nat} (h : n ≤ F.length) : (rowsE F S (n + 1)).set n [ints (tblRow F S n)] = rowsE F S n := by
  apply List.ext_getElem?
  intro j
  rw [List.getElem?_set]
  by_cases hj : n = j
  · subst hj
    rw [if_pos rfl, if_pos (by rw [rowsE_len]; omega), rowsE_get F S h (Nat.le_refl _)]
  · rw [if_neg hj]
    by_cases hl : j ≤ F.length
    · by_cases hjn : j < n
      · rw [rowsE_get0 F S hl (by omega), rowsE_get0 F S hl hjn]
      · rw [rowsE_get F S hl (by omega), rowsE_get F S hl (by omega)]
    · rw [List.getElem?_eq_none (by rw [rowsE_len]; omega), List.getElem?_eq_none (by rw [rowsE_len]; omega)]
theorem entsE_set (F S : List Wd) (i : Nat) {m : Nat} (h : m ≤ S.length) : (entsE F S i (m + 1)).set m [I (far (F.drop i) (S.drop m) : Nat)] = entsE F S i m := by
  apply List.ext_getElem?
  intro j
  rw [List.getElem?_set]
  by_cases hj : m = j
  · subst hj
    rw [if_pos rfl, if_pos (by rw [entsE_len]; omega), entsE_get F S h (Nat.le_refl _)]
  · rw [if_neg hj]
    by_cases hl : j ≤ S.length
    · by_cases hjn : j < m
      · rw [entsE_get0 F S hl (by omega), entsE_get0 F S hl hjn]
      · rw [entsE_get F S hl (by omega), entsE_get F S hl (by omega)]
    · rw [List.getElem?_eq_none (by rw [entsE_len]; omega), List.getElem?_eq_none (by rw [entsE_len]; omega)]
theorem rowsE_start (F S : List Wd) : rowsE F S (F.length + 1) = List.replicate (F.length + 1) [AV.v (.slice none 0 0)] := by
  apply List.ext_getElem?
  intro j
  by_cases hl : j ≤ F.length
  · rw [rowsE_get0 F S hl (by omega), List.getElem?_replicate, if_pos (by omega)]
  · rw [List.getElem?_eq_none (by rw [rowsE_len]; omega), List.getElem?_eq_none (by simp; omega)]
theorem entsE_start (F S : List Wd) (i : Nat) : entsE F S i (S.length + 1) = List.replicate (S.length + 1) [I 0] := by
  apply List.ext_getElem?
  intro j
  by_cases hl : j ≤ S.length
  · rw [entsE_get0 F S hl (by omega), List.getElem?_replicate, if_pos (by omega)]
  · rw [List.getElem?_eq_none (by rw [entsE_len]; omega), List.getElem?_eq_none (by simp; omega)]
theorem rowsE_end (F S : List Wd) : rowsE F S 0 = (tbl F S).map fun r => [ints r] := by
  unfold rowsE tbl
  rw [List.map_map]
  apply List.map_congr_left
  intro j _
  rw [if_neg (by omega)]; rfl
theorem entsE_end (F S : List Wd) (i : Nat) : entsE F S i 0 = (tblRow F S i).map fun x => [I x] := by
  unfold entsE tblRow
  rw [List.map_map]
  apply List.map_congr_left
  intro j _
  rw [if_neg (by omega)]; rfl
theorem tblRow_get (F S : List Wd) (i : Nat) {k : Nat} (h : k ≤ S.length) : (tblRow F S i)[k]? = some ((far (F.drop i) (S.drop k) : Nat) : Int) := by
  unfold tblRow
  rw [List.getElem?_map, List.getElem?_range (by omega)]; rfl
theorem tbl_get (F S : List Wd) {i : Nat} (h : i ≤ F.length) : (tbl F S)[i]? = some (tblRow F S i) := by
  unfold tbl
  rw [List.getElem?_map, List.getElem?_range (by omega)]; rfl
end Go.Px

namespace Go.Px
open Go.Proofs
theorem rleast_ev (F S : List Wd) (hF : F.length ≤ 1000) (hS : S.length ≤ 1000) : Ev Try.prog 122 [strs F, strs S] (tblV (tbl F S)) := by
  have hFl : (F.map fun s => [Str s]).length = F.length := List.length_map _
  have hSl : (S.map fun s => [Str s]).length = S.length := List.length_map _
  refine Ev.intro fn122 ?_
  refine LWp.sx (gs := []) (hs := []) rfl trivial ?_
  refine LWp.seq (LWp.ops ?_)
  refine WOps.xn (gs := []) (hs := []) 3 rfl rfl (by exact ⟨⟨by rw [hFl]; omega, by rw [hFl]; omega⟩, trivial⟩) ?_
  refine WOps.cons (Op1.mslice (F.length + 1) rfl rfl (by show ((F.map fun s => [Str s]).length : Int) + 1 = _; rw [hFl]; omega) (by show ((F.map fun s => [Str s]).length : Int) + 1 = _; rw [hFl]; omega) (by omega) (by omega) rfl (fun gr => ?_))
  refine WOps.xd (gs := []) (hs := []) rfl trivial ?_
  refine LWp.ent (Ent.trans (Ent.ofH (H' := [(gr, .arr 35 1 (F.length + 1) (rowsE F S (F.length + 1)))]) (by rw [rowsE_start]; rfl)) (Ent.el (l := [(0, strs F), (1, strs S), (5, .so gr (F.length + 1) (F.length + 1))]) ⟨rfl, rfl, by show AV.so _ _ _ = _; rw [List.length_replicate], trivial⟩)) ?_
  refine LWp.seq (LWp.seq ?_)
  refine LWp.x (gs := []) (hs := []) rfl trivial ?_
  refine LWp.blockT (fun _ : Unit => True) (fun _ => el [(5, .so gr (F.length + 1) (F.length + 1))]) (fun _ => [(gr, .arr 35 1 (F.length + 1) (rowsE F S 0))]) (fun _ => []) ?_ ?_
  · refine LWp.loopN (fun n : Nat => n ≤ F.length + 1) (fun n => el [(0, strs F), (1, strs S), (5, .so gr (F.length + 1) (F.length + 1)), (6, I ((n : Int) - 1))]) (fun n => [(gr, .arr 35 1 (F.length + 1) (rowsE F S n))]) (fun _ => []) (fun n => n) (F.length + 1) (Nat.le_refl _)
      (Ent.el ⟨rfl, rfl, rfl, by show I _ = I _; rw [hFl]; exact congrArg (fun z : Int => I z) (by omega), trivial⟩) ?_
    intro n hn
    refine LWp.seq (LWp.seq ?_)
    refine LWp.x (gs := []) (hs := []) rfl trivial ?_
    cases n with
    | zero =>
      refine LWp.ite (b := false) rfl (fun h => by cases h) (fun _ => LWp.exit ⟨(), trivial, Ent.el ⟨rfl, trivial⟩⟩)
    | succ i =>
      have hi : i ≤ F.length := by omega
      refine LWp.ite (b := true) (by show B _ = B _; exact congrArg B (decide_eq_true (by omega))) (fun _ => LWp.skip ?_) (fun h => by cases h)
      refine LWp.ent (Ent.el (l := [(0, strs F), (1, strs S), (5, .so gr (F.length + 1) (F.length + 1)), (6, I i)]) ⟨rfl, rfl, rfl, by show I _ = I _; exact congrArg (fun z : Int => I z) (by omega), trivial⟩) ?_
      refine LWp.blockX (fun _ : Unit => True) (fun _ => el [(0, strs F), (1, strs S), (5, .so gr (F.length + 1) (F.length + 1)), (6, I i)]) (fun _ => [(gr, .arr 35 1 (F.length + 1) (rowsE F S i))]) (fun _ => []) ?_ ?_
      · refine LWp.seq (LWp.ops ?_)
        refine WOps.xn (gs := []) (hs := []) 3 rfl rfl (by exact ⟨⟨by rw [hSl]; omega, by rw [hSl]; omega⟩, trivial⟩) ?_
        refine WOps.cons (Op1.mslice (S.length + 1) rfl rfl (by show ((S.map fun s => [Str s]).length : Int) + 1 = _; rw [hSl]; omega) (by show ((S.map fun s => [Str s]).length : Int) + 1 = _; rw [hSl]; omega) (by omega) (by omega) rfl (fun g => ?_))
        refine WOps.xd (gs := []) (hs := []) rfl trivial ?_
        refine LWp.ent (Ent.trans (Ent.ofH (H' := [(g, .arr 3 1 (S.length + 1) (entsE F S i (S.length + 1))), (gr, .arr 35 1 (F.length + 1) (rowsE F S (i + 1)))]) (by rw [entsE_start]; rfl)) (Ent.el (l := [(0, strs F), (1, strs S), (5, .so gr (F.length + 1) (F.length + 1)), (6, I i), (7, .so g (S.length + 1) (S.length + 1))]) ⟨rfl, rfl, rfl, rfl, by show AV.so _ _ _ = _; rw [List.length_replicate], trivial⟩)) ?_
        refine LWp.seq (LWp.seq ?_)
        refine LWp.x (gs := []) (hs := []) rfl trivial ?_
        refine LWp.blockT (fun _ : Unit => True) (fun _ => el [(0, strs F), (1, strs S), (5, .so gr (F.length + 1) (F.length + 1)), (6, I i), (7, .so g (S.length + 1) (S.length + 1))]) (fun _ => [(g, .arr 3 1 (S.length + 1) (entsE F S i 0)), (gr, .arr 35 1 (F.length + 1) (rowsE F S (i + 1)))]) (fun _ => []) ?_ ?_
        · refine LWp.loopN (fun m : Nat => m ≤ S.length + 1) (fun m => el [(0, strs F), (1, strs S), (5, .so gr (F.length + 1) (F.length + 1)), (6, I i), (7, .so g (S.length + 1) (S.length + 1)), (8, I ((m : Int) - 1))]) (fun m => [(g, .arr 3 1 (S.length + 1) (entsE F S i m)), (gr, .arr 35 1 (F.length + 1) (rowsE F S (i + 1)))]) (fun _ => []) (fun m => m) (S.length + 1) (Nat.le_refl _)
            (Ent.el ⟨rfl, rfl, rfl, rfl, rfl, by show I _ = I _; rw [hSl]; exact congrArg (fun z : Int => I z) (by omega), trivial⟩) ?_
          intro m hm
          refine LWp.seq (LWp.seq ?_)
          refine LWp.x (gs := []) (hs := []) rfl trivial ?_
          cases m with
          | zero =>
            refine LWp.ite (b := false) rfl (fun h => by cases h) (fun _ => LWp.exit ⟨(), trivial, Ent.el ⟨rfl, rfl, rfl, rfl, rfl, trivial⟩⟩)
          | succ k =>
            have hk : k ≤ S.length := by omega
            refine LWp.ite (b := true) (by show B _ = B _; exact congrArg B (decide_eq_true (by omega))) (fun _ => LWp.skip ?_) (fun h => by cases h)
            refine LWp.ent (Ent.el (l := [(0, strs F), (1, strs S), (5, .so gr (F.length + 1) (F.length + 1)), (6, I i), (7, .so g (S.length + 1) (S.length + 1)), (8, I k)]) ⟨rfl, rfl, rfl, rfl, rfl, by show I _ = I _; exact congrArg (fun z : Int => I z) (by omega), trivial⟩) ?_
            refine LWp.blockX (fun _ : Unit => True) (fun _ => el [(0, strs F), (1, strs S), (5, .so gr (F.length + 1) (F.length + 1)), (6, I i), (7, .so g (S.length + 1) (S.length + 1)), (8, I k)]) (fun _ => [(g, .arr 3 1 (S.length + 1) (entsE F S i k)), (gr, .arr 35 1 (F.length + 1) (rowsE F S (i + 1)))]) (fun _ => []) ?_ ?_
            · refine LWp.sx (gs := []) (hs := []) rfl trivial ?_
              refine LWp.blockX (fun _ : Unit => True) (fun _ => el [(0, strs F), (1, strs S), (5, .so gr (F.length + 1) (F.length + 1)), (6, I i), (7, .so g (S.length + 1) (S.length + 1)), (8, I k), (9, I (far (F.drop i) (S.drop k) : Nat))]) (fun _ => [(g, .arr 3 1 (S.length + 1) (entsE F S i (k + 1))), (gr, .arr 35 1 (F.length + 1) (rowsE F S (i + 1)))]) (fun _ => []) ?_ ?_
              · refine LWp.sx (gs := []) (hs := []) rfl trivial ?_
                by_cases h1 : i = F.length
                · have hv : far (F.drop i) (S.drop k) = S.length - k := by rw [List.drop_eq_nil_of_le (by omega)]; simp [far]
                  refine LWp.ite (b := true) (by show B _ = B _; exact congrArg B (by rw [beq_iff_eq]; omega)) (fun _ => ?_) (fun h => by cases h)
                  refine LWp.x (gs := []) (hs := []) rfl (by exact ⟨⟨by rw [hSl]; omega, by rw [hSl]; omega⟩, trivial⟩) ?_
                  refine ⟨(), trivial, Ent.el ⟨rfl, rfl, rfl, rfl, rfl, rfl, ?_, trivial⟩⟩
                  show I _ = I _
                  rw [hSl, hv]
                  exact congrArg (fun z : Int => I z) (by omega)
                · refine LWp.ite (b := false) (by show B _ = B _; exact congrArg B (by rw [beq_eq_false_iff_ne]; omega)) (fun h => by cases h) (fun _ => ?_)
                  refine LWp.sx (gs := []) (hs := []) rfl trivial ?_
                  by_cases h2 : k = S.length
                  · have hv : far (F.drop i) (S.drop k) = F.length - i := by rw [List.drop_eq_nil_of_le (show S.length ≤ k by omega), far_nil]; simp
                    refine LWp.ite (b := true) (by show B _ = B _; exact congrArg B (by rw [beq_iff_eq]; omega)) (fun _ => ?_) (fun h => by cases h)
                    refine LWp.x (gs := []) (hs := []) rfl (by exact ⟨⟨by rw [hFl]; omega, by rw [hFl]; omega⟩, trivial⟩) ?_
                    refine ⟨(), trivial, Ent.el ⟨rfl, rfl, rfl, rfl, rfl, rfl, ?_, trivial⟩⟩
                    show I _ = I _
                    rw [hFl, hv]
                    exact congrArg (fun z : Int => I z) (by omega)
                  · refine LWp.ite (b := false) (by show B _ = B _; exact congrArg B (by rw [beq_eq_false_iff_ne]; omega)) (fun h => by cases h) (fun _ => ?_)
                    obtain ⟨w, hw⟩ := ex_get (l := F) (k := i) (by omega)
                    obtain ⟨s, hs⟩ := ex_get (l := S) (k := k) (by omega)
                    have hfar : far (F.drop i) (S.drop k) = if fitB s w = true then min (far (F.drop (i + 1)) (S.drop (k + 1))) (min (1 + far (F.drop (i + 1)) (S.drop k)) (1 + far (F.drop i) (S.drop (k + 1)))) else min (1 + far (F.drop (i + 1)) (S.drop (k + 1))) (min (1 + far (F.drop (i + 1)) (S.drop k)) (1 + far (F.drop i) (S.drop (k + 1)))) := by
                      conv => lhs; rw [drop_cons hw, drop_cons hs, far_cons]
                      rw [← drop_cons hw, ← drop_cons hs]
                    have hrow := rowsE_get F S (n := i + 1) (j := i + 1) (by omega) (Nat.le_refl _)
                    have hr1 := tblRow_get F S (i + 1) (k := k) hk
                    have hr2 := tblRow_get F S (i + 1) (k := k + 1) (by omega)
                    have hen := entsE_get F S (i := i) (m := k + 1) (j := k + 1) (by omega) (Nat.le_refl _)
                    have b1 := far_le (F.drop (i + 1)) (S.drop k)
                    have b2 := far_le (F.drop (i + 1)) (S.drop (k + 1))
                    have b3 := far_le (F.drop i) (S.drop (k + 1))
                    simp only [List.length_drop] at b1 b2 b3
                    have hfi := rfits_ev s w
                    rw [hfar]
                    generalize far (F.drop (i + 1)) (S.drop k) = x10 at hr1 b1
                    generalize far (F.drop (i + 1)) (S.drop (k + 1)) = x11 at hr2 b2
                    generalize far (F.drop i) (S.drop (k + 1)) = x01 at hen b3
                    have e1 : ((i : Int) + 1).toNat = i + 1 := by omega
                    have e2 : ((k : Int) + 1).toNat = k + 1 := by omega
                    have e3 : (k : Int).toNat = k := by omega
                    refine LWp.sd (gs := []) (hs := [.elt 1 (i + 1) 0 [ints (tblRow F S (i + 1))], .cells [I x10], .elt 0 (k + 1) 0 [I x01], .elt 1 (i + 1) 0 [ints (tblRow F S (i + 1))], .cells [I x11], .op (I (min (min x10 x01) x11))]) hmix rfl (by kernel_rfl) (by exact ⟨⟨by omega, by omega⟩, ⟨by omega, by omega⟩, ⟨rfl, by rw [e1]; rfl, hrow⟩, ⟨by omega, by rw [e3]; exact getI hr1⟩, ⟨by omega, by omega⟩, ⟨by omega, by omega⟩, ⟨rfl, by rw [e2]; rfl, hen⟩, ⟨by omega, by omega⟩, ⟨by omega, by omega⟩, ⟨rfl, by rw [e1]; rfl, hrow⟩, ⟨by omega, by omega⟩, ⟨by omega, by rw [e2]; exact getI hr2⟩, (fun _ _ _ => Op1.min3 rfl rfl rfl ⟨rfl, rfl, rfl⟩), ⟨by omega, by omega⟩, trivial⟩) ?_
                    refine LWp.seq ?_
                    generalize fitB s w = fb at hfi
                    refine LWp.dd (gs := []) (hs := [.cells [Str s], .cells [Str w], .ret (B fb)]) hmix rfl (by kernel_rfl) ⟨⟨by omega, by rw [e3]; simp [hs]⟩, ⟨by omega, by simp [hw]⟩, hfi, trivial⟩ ?_
                    cases fb with
                    | true =>
                      refine LWp.ite (b := true) rfl (fun _ => ?_) (fun h => by cases h)
                      refine LWp.x (gs := []) (hs := [.elt 1 (i + 1) 0 [ints (tblRow F S (i + 1))], .cells [I x11]]) rfl (by exact ⟨⟨by omega, by omega⟩, ⟨by omega, by omega⟩, ⟨rfl, by rw [e1]; rfl, hrow⟩, ⟨by omega, by omega⟩, ⟨by omega, by rw [e2]; exact getI hr2⟩, trivial⟩) ?_
                      refine ⟨(), trivial, Ent.el ⟨rfl, rfl, rfl, rfl, rfl, rfl, ?_, trivial⟩⟩
                      show I _ = I _
                      rw [if_pos rfl]
                      show I (min (1 + min (min (x10 : Int) x01) x11) x11) = I ((min x11 (min (1 + x10) (1 + x01)) : Nat) : Int)
                      exact congrArg (fun z : Int => I z) (by omega)
                    | false =>
                      refine LWp.ite (b := false) rfl (fun h => by cases h) (fun _ => LWp.skip ?_)
                      refine ⟨(), trivial, Ent.el ⟨rfl, rfl, rfl, rfl, rfl, rfl, ?_, trivial⟩⟩
                      show I _ = I _
                      rw [if_neg (by decide)]
                      show I (1 + min (min (x10 : Int) x01) x11) = I ((min (1 + x11) (min (1 + x10) (1 + x01)) : Nat) : Int)
                      exact congrArg (fun z : Int => I z) (by omega)
              intro _ _
              refine LWp.ops ?_
              refine WOps.xn (gs := []) (hs := []) 4 rfl rfl ⟨⟨by omega, by omega⟩, trivial⟩ ?_
              refine WOps.cons (Op1.storeE (i := 0) (m := k) (f := 0) rfl rfl (by show ((k : Int).toNat) * 1 = _; simp) (entsE_get0 F S hk (by omega)) rfl rfl rfl rfl (by show 1 ≤ 1; decide) ?_)
              refine WOps.nil ⟨(), trivial, Ent.trans (Ent.ofH ?_) (Ent.el ⟨rfl, rfl, rfl, rfl, rfl, rfl, trivial⟩)⟩
              show [(g, HObj.arr 3 1 (S.length + 1) ((entsE F S i (k + 1)).set k [I (far (F.drop i) (S.drop k) : Nat)])), _] = _
              rw [entsE_set F S i hk]
            · intro _ _
              refine LWp.x (gs := []) (hs := []) rfl ⟨by omega, trivial⟩ ?_
              exact ⟨k, by omega, by omega, Ent.el ⟨rfl, rfl, rfl, rfl, rfl, rfl, trivial⟩⟩
        · intro _ _
          refine LWp.ent (Ent.unshare (i := 0) (t := 7) (es := entsE F S i 0) (by rw [entsE_len]; rfl) rfl) ?_
          refine LWp.ent (Ent.freezeLin (t := 7) rfl) ?_
          rw [entsE_end]
          refine LWp.ops ?_
          refine WOps.xn (gs := []) (hs := []) 4 rfl rfl ⟨⟨by omega, by omega⟩, trivial⟩ ?_
          refine WOps.cons (Op1.storeE (i := 0) (m := i) (f := 0) rfl rfl (by show ((i : Int).toNat) * 1 = _; simp) (rowsE_get0 F S hi (by omega)) rfl rfl rfl rfl (by show 1 ≤ 1; decide) ?_)
          refine WOps.nil ⟨(), trivial, Ent.trans (Ent.ofH ?_) (Ent.el ⟨rfl, rfl, rfl, rfl, trivial⟩)⟩
          show [(gr, HObj.arr 35 1 (F.length + 1) ((rowsE F S (i + 1)).set i [ints (tblRow F S i)]))] = _
          rw [rowsE_set F S hi]
      · intro _ _
        refine LWp.x (gs := []) (hs := []) rfl ⟨by omega, trivial⟩ ?_
        exact ⟨i, by omega, by omega, Ent.el ⟨rfl, rfl, rfl, rfl, trivial⟩⟩
  · intro _ _
    refine LWp.sx (gs := []) (hs := []) rfl trivial ?_
    refine LWp.ent (Ent.unshare (i := 0) (t := 4) (es := rowsE F S 0) (by rw [rowsE_len]; rfl) rfl) ?_
    refine LWp.ent (Ent.freezeLin (t := 4) rfl) ?_
    refine LWp.ret (retT (.inr rfl) (.one (.tmp ?_ rfl)))
    show AV.sl 1 _ = _
    rw [rowsE_end]
end Go.Px

namespace Go.Px
open Go.Proofs
theorem kindF_ref {F S : List Wd} (hS : NE S) {a b : Nat} {w s : Wd} (hw : F[a]? = some w) (hs : S[b]? = some s) :
    kindF (F.drop a) (S.drop b) = if w = s ∧ far (F.drop (a + 1)) (S.drop (b + 1)) = far (F.drop a) (S.drop b) then 0 else if w ≠ s ∧ far (F.drop (a + 1)) (S.drop (b + 1)) + 1 = far (F.drop a) (S.drop b) then 1 else if far (F.drop (a + 1)) (S.drop b) + 1 = far (F.drop a) (S.drop b) then 2 else 3 := by
  have hne : s ≠ [] := hS s (List.mem_of_getElem? hs)
  rw [drop_cons hw, drop_cons hs, far_cons]
  simp only [kindF]
  by_cases hf : fitB s w = true
  · have e : w = s := ((fit_eq hne).1 hf).symm
    subst e
    rw [if_pos hf, if_pos hf]
    generalize far (F.drop (a + 1)) (S.drop (b + 1)) = x11
    generalize far (F.drop (a + 1)) (w :: S.drop (b + 1)) = x10
    generalize far (w :: F.drop (a + 1)) (S.drop (b + 1)) = x01
    by_cases g1 : x11 ≤ 1 + x10 ∧ x11 ≤ 1 + x01
    · rw [if_pos g1, if_pos ⟨rfl, by omega⟩]
    · rw [if_neg g1]
      by_cases g2 : x10 ≤ x01
      · rw [if_pos g2, if_neg (fun h => by have := h.2; omega), if_neg (fun h => h.1 rfl), if_pos (by omega)]
      · rw [if_neg g2, if_neg (fun h => by have := h.2; omega), if_neg (fun h => h.1 rfl), if_neg (by omega)]
  · have e : w ≠ s := fun e => hf ((fit_eq hne).2 e.symm)
    rw [if_neg hf, if_neg hf]
    generalize far (F.drop (a + 1)) (S.drop (b + 1)) = x11
    generalize far (F.drop (a + 1)) (s :: S.drop (b + 1)) = x10
    generalize far (w :: F.drop (a + 1)) (S.drop (b + 1)) = x01
    by_cases g1 : x11 ≤ x10 ∧ x11 ≤ x01
    · rw [if_pos g1, if_neg (fun h => e h.1), if_pos ⟨e, by omega⟩]
    · rw [if_neg g1]
      by_cases g2 : x10 ≤ x01
      · rw [if_pos g2, if_neg (fun h => e h.1), if_neg (fun h => by have := h.2; omega), if_pos (by omega)]
      · rw [if_neg g2, if_neg (fun h => e h.1), if_neg (fun h => by have := h.2; omega), if_neg (by omega)]
theorem marksF_keep {F S : List Wd} {a b f : Nat} (h : kindF (F.drop a) (S.drop b) = 0) : marksF (f + 1) (F.drop a) (S.drop b) = ⟨0, []⟩ :: marksF f (F.drop (a + 1)) (S.drop (b + 1)) := by
  simp only [marksF]
  rw [h, if_pos rfl, List.tail_drop, List.tail_drop]
theorem marksF_turn {F S : List Wd} {a b f : Nat} {s : Wd} (hs : S[b]? = some s) (h : kindF (F.drop a) (S.drop b) = 1) : marksF (f + 1) (F.drop a) (S.drop b) = ⟨1, s⟩ :: marksF f (F.drop (a + 1)) (S.drop (b + 1)) := by
  simp only [marksF]
  rw [h, if_neg (by decide), if_pos rfl, List.tail_drop, List.tail_drop]
  conv => lhs; rw [drop_cons hs]
  rfl
theorem marksF_drop {F S : List Wd} {a b f : Nat} (h : kindF (F.drop a) (S.drop b) = 2) : marksF (f + 1) (F.drop a) (S.drop b) = ⟨2, []⟩ :: marksF f (F.drop (a + 1)) (S.drop b) := by
  simp only [marksF]
  rw [h, if_neg (by decide), if_neg (by decide), if_pos rfl, List.tail_drop]
theorem marksF_put {F S : List Wd} {a b f : Nat} {s : Wd} (hs : S[b]? = some s) (h : kindF (F.drop a) (S.drop b) = 3) : marksF (f + 1) (F.drop a) (S.drop b) = ⟨3, s⟩ :: marksF f (F.drop a) (S.drop (b + 1)) := by
  simp only [marksF]
  rw [h, if_neg (by decide), if_neg (by decide), if_neg (by decide), if_pos rfl, List.tail_drop]
  conv => lhs; rw [drop_cons hs]
  rfl
theorem rcorr_ev (ms : List Mark) : Ev Try.prog 50 [marksV ms] (I (corr ms : Nat)) := by
  refine Ev.intro fn50 ?_
  refine LWp.slLen 0 rfl fun hll => ?_
  have hl : (ms.map Mark.enc).length = ms.length := List.length_map _
  refine LWp.sx (gs := []) (hs := []) rfl trivial ?_
  refine LWp.sx (gs := []) (hs := []) rfl trivial ?_
  refine LWp.seq (LWp.seq ?_)
  refine LWp.x (gs := []) (hs := []) rfl trivial ?_
  refine LWp.blockT (fun _ : Unit => True) (fun _ => el [(3, I (corr ms : Nat))]) (fun _ => []) (fun _ => []) ?_ ?_
  · refine LWp.loopN (fun k : Nat => k ≤ ms.length) (fun k => el [(0, marksV ms), (3, I (corr (ms.take k) : Nat)), (4, I k)]) (fun _ => []) (fun _ => []) (fun k => ms.length - k) 0 (Nat.zero_le _)
      (Ent.el ⟨rfl, rfl, rfl, trivial⟩) ?_
    intro k hk
    refine LWp.seq (LWp.seq ?_)
    refine LWp.x (gs := []) (hs := []) rfl trivial ?_
    refine LWp.ite rfl (fun he => ?_) (fun he => ?_)
    · simp only [List.length_map, decide_eq_true_eq, Int.ofNat_lt] at he
      obtain ⟨m, hm⟩ := ex_get he
      have htk : corr (ms.take (k + 1)) = corr (ms.take k) + if m.k = 0 then 0 else 1 := by
        rw [take_snoc hm]
        simp only [corr, List.countP_append]
        congr 1
        by_cases h : m.k = 0 <;> simp [h]
      have hle : corr (ms.take k) ≤ k := Nat.le_trans (List.countP_le_length) (by rw [List.length_take]; omega)
      refine LWp.skip ?_
      refine LWp.blockX (fun _ : Unit => True) (fun _ => el [(0, marksV ms), (3, I (corr (ms.take (k + 1)) : Nat)), (4, I k)]) (fun _ => []) (fun _ => []) ?_ ?_
      · refine LWp.seq ?_
        refine LWp.x (gs := []) (hs := [.cells m.enc]) rfl ⟨⟨by omega, by simp [hm]⟩, trivial⟩ ?_
        by_cases h0 : m.k = 0
        · refine LWp.ite (b := false) (by show B _ = B _; exact congrArg B (by simp [h0])) (fun h => by cases h) (fun _ => LWp.skip ?_)
          exact ⟨(), trivial, Ent.el ⟨rfl, by rw [htk, if_pos h0]; rfl, rfl, trivial⟩⟩
        · refine LWp.ite (b := true) (by show B _ = B _; exact congrArg B (by rw [bne_iff_ne]; exact h0)) (fun _ => ?_) (fun h => by cases h)
          refine LWp.x (gs := []) (hs := []) rfl ⟨by omega, trivial⟩ ?_
          exact ⟨(), trivial, Ent.el ⟨rfl, by rw [htk, if_neg h0]; rfl, rfl, trivial⟩⟩
      intro _ _
      refine LWp.x (gs := []) (hs := []) rfl ⟨by omega, trivial⟩ ?_
      exact ⟨k + 1, by omega, by omega, Ent.el ⟨rfl, rfl, rfl, trivial⟩⟩
    · simp only [List.length_map, decide_eq_false_iff_not, Int.ofNat_lt] at he
      exact LWp.exit ⟨(), trivial, Ent.el ⟨by rw [List.take_of_length_le (by omega)]; rfl, trivial⟩⟩
  intro _ _
  refine LWp.sx (gs := []) (hs := []) rfl trivial ?_
  refine LWp.ret (retT (.inr rfl) (.one (.tmp ?_ rfl)))
  rfl
theorem rfewest_ev (A C : List Wd) (hM : letterE A = 0 → letterE C = 0 → Ev Try.prog 84 [strs A, strs C] (marksV (marksF (A.length + C.length) A C))) : Ev Try.prog 33 [strs A, strs C] (.tup [marksV (fewestR A C).1, I (fewestR A C).2.1, I (fewestR A C).2.2]) := by
  refine Ev.intro fn33 ?_
  have h1 := rLetter_ev A
  have h2 := rthen_ev C (letterE A)
  have hE : thenE (letterE A) C = fewestE A C := by unfold thenE fewestE; rfl
  rw [hE] at h2
  refine LWp.sx (gs := []) (hs := []) rfl trivial ?_
  refine LWp.sx (gs := []) (hs := [.ret (I (letterE A)), .ret (I (fewestE A C))]) rfl ⟨h1, h2, trivial⟩ ?_
  refine LWp.seq (LWp.seq ?_)
  refine LWp.x (gs := []) (hs := []) rfl trivial ?_
  by_cases h0 : fewestE A C = 0
  · obtain ⟨hA0, hC0⟩ := fewestE_zero.1 h0
    have hR : fewestR A C = (marksF (A.length + C.length) A C, ((far A C : Nat) : Int), 0) := by unfold fewestR; rw [if_pos h0]
    have hM := hM hA0 hC0
    have hc := rcorr_ev (marksF (A.length + C.length) A C)
    rw [(fewest_apply hA0 hC0).2] at hc
    rw [hR]
    refine LWp.ite (b := false) (by show B _ = B _; exact congrArg B (by simp [h0])) (fun h => by cases h) (fun _ => LWp.skip ?_)
    generalize marksF (A.length + C.length) A C = M at hM hc
    refine LWp.sx (gs := []) (hs := [.ret (marksV M)]) rfl ⟨hM, trivial⟩ ?_
    refine LWp.sx (gs := []) (hs := [.ret (I (far A C : Nat))]) rfl ⟨hc, trivial⟩ ?_
    exact LWp.ret (retT (.inr rfl) (.many (by decide) ⟨.tmp rfl rfl, .tmp rfl rfl, .tmp rfl rfl, trivial⟩))
  · have hR : fewestR A C = ([], 0, fewestE A C) := by unfold fewestR; rw [if_neg h0]
    rw [hR]
    refine LWp.ite (b := true) (by show B _ = B _; exact congrArg B (by rw [bne_iff_ne]; exact h0)) (fun _ => ?_) (fun h => by cases h)
    refine LWp.sx (gs := []) (hs := []) rfl trivial ?_
    refine LWp.ent (Ent.nilSl (t := 4) 2 rfl) ?_
    exact LWp.ret (retT (.inr rfl) (.many (by decide) ⟨.tmp rfl rfl, .tmp rfl rfl, .tmp rfl rfl, trivial⟩))
end Go.Px

namespace Go.Px
open Go.Proofs
set_option maxRecDepth 10000 in
set_option maxHeartbeats 2000000 in
theorem rmarks_ev (A C : List Wd) (hA : A.length ≤ 1000) (hC : C.length ≤ 1000) (hNE : NE C) : Ev Try.prog 84 [strs A, strs C] (marksV (marksF (A.length + C.length) A C)) := by
  have hAl : (A.map fun s => [Str s]).length = A.length := List.length_map _
  have hCl : (C.map fun s => [Str s]).length = C.length := List.length_map _
  have hle := rleast_ev A C hA hC
  have htb : ∀ {i : Nat}, i ≤ A.length → (tbl A C)[i]? = some (tblRow A C i) := fun h => tbl_get A C h
  refine Ev.intro fn84 ?_
  generalize tbl A C = T at hle htb
  refine LWp.sx (gs := []) (hs := []) rfl trivial ?_
  refine LWp.sx (gs := []) (hs := [.ret (tblV T)]) rfl ⟨hle, trivial⟩ ?_
  refine LWp.sx (gs := []) (hs := []) rfl trivial ?_
  refine LWp.ent (Ent.nilLin (t := 6) 123 2 rfl) ?_
  refine LWp.sx (gs := []) (hs := []) rfl trivial ?_
  refine LWp.ent (Ent.el (l := [(0, strs A), (1, strs C), (5, tblV T), (6, .lin 123 2 []), (7, I 0), (8, I 0)]) ⟨rfl, rfl, rfl, rfl, rfl, rfl, trivial⟩) ?_
  refine LWp.seq (LWp.blockT (fun _ : Unit => True) (fun _ => el [(6, .lin 123 2 ((marksF (A.length + C.length) A C).map Mark.enc))]) (fun _ => []) (fun _ => []) ?_ ?_)
  · refine LWp.loopN (X := Nat × Nat × List Mark) (fun x => x.1 ≤ A.length ∧ x.2.1 ≤ C.length ∧ x.2.2.length ≤ x.1 + x.2.1 ∧ ∃ f, A.length + C.length ≤ f + (x.1 + x.2.1) ∧ marksF (A.length + C.length) A C = x.2.2 ++ marksF f (A.drop x.1) (C.drop x.2.1))
      (fun x => el [(0, strs A), (1, strs C), (5, tblV T), (6, .lin 123 2 (x.2.2.map Mark.enc)), (7, I x.1), (8, I x.2.1)]) (fun _ => []) (fun _ => []) (fun x => (A.length - x.1) + (C.length - x.2.1)) (0, 0, []) ⟨Nat.zero_le _, Nat.zero_le _, by simp, A.length + C.length, by simp, rfl⟩
      (Ent.el ⟨rfl, rfl, rfl, rfl, rfl, rfl, trivial⟩) ?_
    rintro ⟨a, b, ms⟩ ⟨ha, hb, hml, f, hf, hms⟩
    simp only at ha hb hml hf hms
    have hmel : (ms.map Mark.enc).length = ms.length := List.length_map _
    refine LWp.ent (Ent.el (l := [(0, strs A), (1, strs C), (5, tblV T), (6, .lin 123 2 (ms.map Mark.enc)), (7, I a), (8, I b)]) ⟨rfl, rfl, rfl, rfl, rfl, rfl, trivial⟩) ?_
    refine LWp.seq (LWp.cutX (fun _ : Unit => True) (fun _ => el [(0, strs A), (1, strs C), (5, tblV T), (6, .lin 123 2 (ms.map Mark.enc)), (7, I a), (8, I b), (22, B (decide (a < A.length ∨ b < C.length)))]) (fun _ => []) (fun _ => []) ?_ ?_)
    · by_cases h1 : a < A.length
      · have g1 : decide ((a : Int) < ((A.map fun s => [Str s]).length : Int)) = true := decide_eq_true (by rw [hAl]; omega)
        refine LWp.x (gs := [(17, true)]) (hs := []) rfl (by (repeat' (with_reducible apply And.intro)); (all_goals try first | (with_reducible exact trivial) | (with_reducible rfl) | (with_reducible assumption) | ((with_reducible apply isB); first | exact rfl | exact beq_self_eq_true _))) ?_
        refine ⟨(), trivial, Ent.el ⟨rfl, rfl, rfl, rfl, rfl, rfl, ?_, trivial⟩⟩
        show B _ = B _
        exact congrArg B (decide_eq_true (.inl h1)).symm
      · have g1 : decide ((a : Int) < ((A.map fun s => [Str s]).length : Int)) = false := decide_eq_false (by rw [hAl]; omega)
        refine LWp.x (gs := [(17, false)]) (hs := []) rfl (by (repeat' (with_reducible apply And.intro)); (all_goals try first | (with_reducible exact trivial) | (with_reducible rfl) | (with_reducible assumption) | ((with_reducible apply isB); first | exact rfl | exact beq_self_eq_true _))) ?_
        refine ⟨(), trivial, Ent.el ⟨rfl, rfl, rfl, rfl, rfl, rfl, ?_, trivial⟩⟩
        show B _ = B _
        refine congrArg B ?_
        rw [hCl, Bool.eq_iff_iff]; simp <;> omega
    intro _ _
    refine LWp.ite rfl (fun he => ?_) (fun he => ?_)
    · have he : a < A.length ∨ b < C.length := by simpa using he
      refine LWp.skip ?_
      obtain ⟨f', rfl⟩ : ∃ f', f = f' + 1 := ⟨f - 1, by omega⟩
      have e1 : ((a : Int) + 1).toNat = a + 1 := by omega
      have e2 : ((b : Int) + 1).toNat = b + 1 := by omega
      have e3 : (a : Int).toNat = a := by omega
      have e4 : (b : Int).toNat = b := by omega
      have bn := far_le (A.drop a) (C.drop b)
      have b10 := far_le (A.drop (a + 1)) (C.drop b)
      have b11 := far_le (A.drop (a + 1)) (C.drop (b + 1))
      simp only [List.length_drop] at bn b10 b11
      have hTa := htb ha
      have hRb := tblRow_get A C a hb
      refine LWp.block ?_
      obtain ⟨n, hn⟩ : ∃ n, far (A.drop a) (C.drop b) = n := ⟨_, rfl⟩
      obtain ⟨x10, hx10⟩ : ∃ n, far (A.drop (a + 1)) (C.drop b) = n := ⟨_, rfl⟩
      obtain ⟨x11, hx11⟩ : ∃ n, far (A.drop (a + 1)) (C.drop (b + 1)) = n := ⟨_, rfl⟩
      rw [hn] at hRb bn
      rw [hx10] at b10
      rw [hx11] at b11
      refine LWp.sx (gs := []) (hs := [.cells [ints (tblRow A C a)], .cells [I n]]) rfl ⟨⟨by omega, by simp [hTa]⟩, ⟨by omega, by rw [e4]; exact getI hRb⟩, trivial⟩ ?_
      refine LWp.ent (Ent.el (l := [(0, strs A), (1, strs C), (5, tblV T), (6, .lin 123 2 (ms.map Mark.enc)), (7, I a), (8, I b), (9, I n)]) ⟨rfl, rfl, rfl, rfl, rfl, rfl, rfl, trivial⟩) ?_
      refine LWp.block ?_
      by_cases h1 : a < A.length
      · obtain ⟨w, hw⟩ := ex_get h1
        have hTa1 := htb (i := a + 1) (by omega)
        have hR10 := tblRow_get A C (a + 1) hb
        rw [hx10] at hR10
        have g1 : decide ((a : Int) < ((A.map fun s => [Str s]).length : Int)) = true := decide_eq_true (by rw [hAl]; omega)
        by_cases h2 : b < C.length
        · obtain ⟨s, hs⟩ := ex_get h2
          have hR11 := tblRow_get A C (a + 1) (k := b + 1) (by omega)
          rw [hx11] at hR11
          have hk := kindF_ref hNE hw hs
          rw [hn, hx10, hx11] at hk
          have g2 : decide ((b : Int) < ((C.map fun s => [Str s]).length : Int)) = true := decide_eq_true (by rw [hCl]; omega)
          refine LWp.seq ?_
          by_cases hws : w = s
          · have hs' := hs
            rw [← hws] at hs'
            have g3 : ((ByteArray.mk w.toArray).toList == (ByteArray.mk w.toArray).toList) = true := beq_self_eq_true _
            have g4 : (!(ByteArray.mk w.toArray).toList == (ByteArray.mk w.toArray).toList) = false := by rw [g3]; rfl
            refine LWp.dd (gs := [(45, true), (51, true), (62, true)]) (hs := [.cells [Str w], .cells [Str w], .cells [ints (tblRow A C (a + 1))], .cells [I x11]]) hmix rfl (by kernel_rfl) (by (repeat' (with_reducible apply And.intro)); (all_goals first | (with_reducible exact trivial) | (with_reducible rfl) | (with_reducible assumption) | ((with_reducible apply isB); first | exact rfl | exact beq_self_eq_true _) | omega | ((first | (simp [hw]; done) | (simp [hs']; done) | (rw [e1]; simp [hTa1]; done) | (rw [e2]; exact getI hR11))))) ?_
            by_cases hy : x11 = n
            · rw [if_pos ⟨hws, hy⟩] at hk
              refine LWp.ite (b := true) (by show B _ = B _; exact congrArg B (by rw [beq_iff_eq]; omega)) (fun _ => ?_) (fun h => by cases h)
              rw [marksF_keep hk] at hms
              refine LWp.sx (gs := []) (hs := [.ice]) rfl ⟨rfl, ⟨by show (_ + 1) * 24 ≤ _; rw [hmel]; omega, by show _ + 1 ≤ _; rw [hmel]; omega⟩, trivial⟩ ?_
              refine LWp.x (gs := []) (hs := []) rfl ⟨by omega, by omega, trivial⟩ ?_
              exact ⟨(a + 1, b + 1, ms ++ [⟨0, []⟩]), ⟨by simp only; omega, by simp only; omega, by simp; omega, f', by simp only; omega, by rw [hms]; simp⟩, by simp only; omega, Ent.el ⟨rfl, rfl, rfl, by show _ = AV.lin _ _ ((ms ++ [_]).map Mark.enc); rw [List.map_append]; rfl, rfl, rfl, trivial⟩⟩
            rw [if_neg (fun h => hy h.2), if_neg (fun h => h.1 hws)] at hk
            refine LWp.ite (b := false) (by show B _ = B _; exact congrArg B (by rw [beq_eq_false_iff_ne]; omega)) (fun h => by cases h) (fun _ => ?_)
            refine LWp.seq ?_
            refine LWp.dd (gs := [(88, true), (94, true), (105, false)]) (hs := [.cells [Str w], .cells [Str w]]) hmix rfl (by kernel_rfl) (by (repeat' (with_reducible apply And.intro)); (all_goals first | (with_reducible exact trivial) | (with_reducible rfl) | (with_reducible assumption) | ((with_reducible apply isB); first | exact rfl | exact beq_self_eq_true _) | omega | ((first | (simp [hw]; done) | (simp [hs']; done))))) ?_
            refine LWp.ite (b := false) rfl (fun h => by cases h) (fun _ => ?_)
            refine LWp.seq ?_
            refine LWp.x (gs := [(136, true)]) (hs := [.cells [ints (tblRow A C (a + 1))], .cells [I x10]]) rfl (by (repeat' (with_reducible apply And.intro)); (all_goals first | (with_reducible exact trivial) | (with_reducible rfl) | (with_reducible assumption) | ((with_reducible apply isB); first | exact rfl | exact beq_self_eq_true _) | omega | ((first | (rw [e1]; simp [hTa1]; done) | (rw [e4]; exact getI hR10))))) ?_
            by_cases hz : x10 + 1 = n
            · refine LWp.ite (b := true) (by show B _ = B _; exact congrArg B (by rw [beq_iff_eq]; omega)) (fun _ => ?_) (fun h => by cases h)
              rw [if_pos hz] at hk
              rw [marksF_drop hk] at hms
              refine LWp.sx (gs := []) (hs := [.ice]) rfl ⟨rfl, ⟨by show (_ + 1) * 24 ≤ _; rw [hmel]; omega, by show _ + 1 ≤ _; rw [hmel]; omega⟩, trivial⟩ ?_
              refine LWp.x (gs := []) (hs := []) rfl ⟨by omega, trivial⟩ ?_
              exact ⟨(a + 1, b, ms ++ [⟨2, []⟩]), ⟨by simp only; omega, by simp only; omega, by simp; omega, f', by simp only; omega, by rw [hms]; simp⟩, by simp only; omega, Ent.el ⟨rfl, rfl, rfl, by show _ = AV.lin _ _ ((ms ++ [_]).map Mark.enc); rw [List.map_append]; rfl, rfl, rfl, trivial⟩⟩
            · refine LWp.ite (b := false) (by show B _ = B _; exact congrArg B (by rw [beq_eq_false_iff_ne]; omega)) (fun h => by cases h) (fun _ => ?_)
              rw [if_neg hz] at hk
              rw [marksF_put hs hk] at hms
              refine LWp.sx (gs := []) (hs := [.cells [Str s], .ice]) rfl ⟨⟨by omega, by simp [hs]⟩, rfl, ⟨by show (_ + 1) * 24 ≤ _; rw [hmel]; omega, by show _ + 1 ≤ _; rw [hmel]; omega⟩, trivial⟩ ?_
              refine LWp.x (gs := []) (hs := []) rfl ⟨by omega, trivial⟩ ?_
              exact ⟨(a, b + 1, ms ++ [⟨3, s⟩]), ⟨by simp only; omega, by simp only; omega, by simp; omega, f', by simp only; omega, by rw [hms]; simp⟩, by simp only; omega, Ent.el ⟨rfl, rfl, rfl, by show _ = AV.lin _ _ ((ms ++ [_]).map Mark.enc); rw [List.map_append]; rfl, rfl, rfl, trivial⟩⟩
          · have g3 : ((ByteArray.mk w.toArray).toList == (ByteArray.mk s.toArray).toList) = false := by simp [hws]
            have g4 : (!(ByteArray.mk w.toArray).toList == (ByteArray.mk s.toArray).toList) = true := by rw [g3]; rfl
            rw [if_neg (fun h => hws h.1)] at hk
            refine LWp.dd (gs := [(45, true), (51, true), (62, false)]) (hs := [.cells [Str w], .cells [Str s]]) hmix rfl (by kernel_rfl) (by (repeat' (with_reducible apply And.intro)); (all_goals first | (with_reducible exact trivial) | (with_reducible rfl) | (with_reducible assumption) | ((with_reducible apply isB); first | exact rfl | exact beq_self_eq_true _) | omega | ((first | (simp [hw]; done) | (simp [hs]; done))))) ?_
            refine LWp.ite (b := false) rfl (fun h => by cases h) (fun _ => ?_)
            refine LWp.seq ?_
            refine LWp.dd (gs := [(88, true), (94, true), (105, true)]) (hs := [.cells [Str w], .cells [Str s], .cells [ints (tblRow A C (a + 1))], .cells [I x11]]) hmix rfl (by kernel_rfl) (by (repeat' (with_reducible apply And.intro)); (all_goals first | (with_reducible exact trivial) | (with_reducible rfl) | (with_reducible assumption) | ((with_reducible apply isB); first | exact rfl | exact beq_self_eq_true _) | omega | ((first | (simp [hw]; done) | (simp [hs]; done) | (rw [e1]; simp [hTa1]; done) | (rw [e2]; exact getI hR11))))) ?_
            by_cases hy : x11 + 1 = n
            · rw [if_pos ⟨hws, hy⟩] at hk
              refine LWp.ite (b := true) (by show B _ = B _; exact congrArg B (by rw [beq_iff_eq]; omega)) (fun _ => ?_) (fun h => by cases h)
              rw [marksF_turn hs hk] at hms
              refine LWp.sx (gs := []) (hs := [.cells [Str s], .ice]) rfl ⟨⟨by omega, by simp [hs]⟩, rfl, ⟨by show (_ + 1) * 24 ≤ _; rw [hmel]; omega, by show _ + 1 ≤ _; rw [hmel]; omega⟩, trivial⟩ ?_
              refine LWp.x (gs := []) (hs := []) rfl ⟨by omega, by omega, trivial⟩ ?_
              exact ⟨(a + 1, b + 1, ms ++ [⟨1, s⟩]), ⟨by simp only; omega, by simp only; omega, by simp; omega, f', by simp only; omega, by rw [hms]; simp⟩, by simp only; omega, Ent.el ⟨rfl, rfl, rfl, by show _ = AV.lin _ _ ((ms ++ [_]).map Mark.enc); rw [List.map_append]; rfl, rfl, rfl, trivial⟩⟩
            rw [if_neg (fun h => hy h.2)] at hk
            refine LWp.ite (b := false) (by show B _ = B _; exact congrArg B (by rw [beq_eq_false_iff_ne]; omega)) (fun h => by cases h) (fun _ => ?_)
            refine LWp.seq ?_
            refine LWp.x (gs := [(136, true)]) (hs := [.cells [ints (tblRow A C (a + 1))], .cells [I x10]]) rfl (by (repeat' (with_reducible apply And.intro)); (all_goals first | (with_reducible exact trivial) | (with_reducible rfl) | (with_reducible assumption) | ((with_reducible apply isB); first | exact rfl | exact beq_self_eq_true _) | omega | ((first | (rw [e1]; simp [hTa1]; done) | (rw [e4]; exact getI hR10))))) ?_
            by_cases hz : x10 + 1 = n
            · refine LWp.ite (b := true) (by show B _ = B _; exact congrArg B (by rw [beq_iff_eq]; omega)) (fun _ => ?_) (fun h => by cases h)
              rw [if_pos hz] at hk
              rw [marksF_drop hk] at hms
              refine LWp.sx (gs := []) (hs := [.ice]) rfl ⟨rfl, ⟨by show (_ + 1) * 24 ≤ _; rw [hmel]; omega, by show _ + 1 ≤ _; rw [hmel]; omega⟩, trivial⟩ ?_
              refine LWp.x (gs := []) (hs := []) rfl ⟨by omega, trivial⟩ ?_
              exact ⟨(a + 1, b, ms ++ [⟨2, []⟩]), ⟨by simp only; omega, by simp only; omega, by simp; omega, f', by simp only; omega, by rw [hms]; simp⟩, by simp only; omega, Ent.el ⟨rfl, rfl, rfl, by show _ = AV.lin _ _ ((ms ++ [_]).map Mark.enc); rw [List.map_append]; rfl, rfl, rfl, trivial⟩⟩
            · refine LWp.ite (b := false) (by show B _ = B _; exact congrArg B (by rw [beq_eq_false_iff_ne]; omega)) (fun h => by cases h) (fun _ => ?_)
              rw [if_neg hz] at hk
              rw [marksF_put hs hk] at hms
              refine LWp.sx (gs := []) (hs := [.cells [Str s], .ice]) rfl ⟨⟨by omega, by simp [hs]⟩, rfl, ⟨by show (_ + 1) * 24 ≤ _; rw [hmel]; omega, by show _ + 1 ≤ _; rw [hmel]; omega⟩, trivial⟩ ?_
              refine LWp.x (gs := []) (hs := []) rfl ⟨by omega, trivial⟩ ?_
              exact ⟨(a, b + 1, ms ++ [⟨3, s⟩]), ⟨by simp only; omega, by simp only; omega, by simp; omega, f', by simp only; omega, by rw [hms]; simp⟩, by simp only; omega, Ent.el ⟨rfl, rfl, rfl, by show _ = AV.lin _ _ ((ms ++ [_]).map Mark.enc); rw [List.map_append]; rfl, rfl, rfl, trivial⟩⟩
        · have e5 : b = C.length := by omega
          have g2 : decide ((b : Int) < ((C.map fun s => [Str s]).length : Int)) = false := decide_eq_false (by rw [hCl]; omega)
          refine LWp.seq ?_
          refine LWp.dd (gs := [(45, true), (51, false), (62, false)]) (hs := []) hmix rfl (by kernel_rfl) (by (repeat' (with_reducible apply And.intro)); (all_goals try first | (with_reducible exact trivial) | (with_reducible rfl) | (with_reducible assumption) | ((with_reducible apply isB); first | exact rfl | exact beq_self_eq_true _))) ?_
          refine LWp.ite (b := false) rfl (fun h => by cases h) (fun _ => ?_)
          refine LWp.seq ?_
          refine LWp.dd (gs := [(88, true), (94, false), (105, false)]) (hs := []) hmix rfl (by kernel_rfl) (by (repeat' (with_reducible apply And.intro)); (all_goals try first | (with_reducible exact trivial) | (with_reducible rfl) | (with_reducible assumption) | ((with_reducible apply isB); first | exact rfl | exact beq_self_eq_true _))) ?_
          refine LWp.ite (b := false) rfl (fun h => by cases h) (fun _ => ?_)
          refine LWp.seq ?_
          refine LWp.x (gs := [(136, true)]) (hs := [.cells [ints (tblRow A C (a + 1))], .cells [I x10]]) rfl (by (repeat' (with_reducible apply And.intro)); (all_goals first | (with_reducible exact trivial) | (with_reducible rfl) | (with_reducible assumption) | ((with_reducible apply isB); first | exact rfl | exact beq_self_eq_true _) | omega | ((first | (rw [e1]; simp [hTa1]; done) | (rw [e4]; exact getI hR10))))) ?_
          have hz : x10 + 1 = n := by
            have z1 : far (A.drop (a + 1)) (C.drop b) = A.length - (a + 1) := by rw [e5, List.drop_length, far_nil, List.length_drop]
            have z2 : far (A.drop a) (C.drop b) = A.length - a := by rw [e5, List.drop_length, far_nil, List.length_drop]
            omega
          refine LWp.ite (b := true) (by show B _ = B _; exact congrArg B (by rw [beq_iff_eq]; omega)) (fun _ => ?_) (fun h => by cases h)
          have hk : kindF (A.drop a) (C.drop b) = 2 := by rw [e5, List.drop_length, drop_cons hw]; rfl
          rw [marksF_drop hk] at hms
          refine LWp.sx (gs := []) (hs := [.ice]) rfl ⟨rfl, ⟨by show (_ + 1) * 24 ≤ _; rw [hmel]; omega, by show _ + 1 ≤ _; rw [hmel]; omega⟩, trivial⟩ ?_
          refine LWp.x (gs := []) (hs := []) rfl ⟨by omega, trivial⟩ ?_
          exact ⟨(a + 1, b, ms ++ [⟨2, []⟩]), ⟨by simp only; omega, by simp only; omega, by simp; omega, f', by simp only; omega, by rw [hms]; simp⟩, by simp only; omega, Ent.el ⟨rfl, rfl, rfl, by show _ = AV.lin _ _ ((ms ++ [_]).map Mark.enc); rw [List.map_append]; rfl, rfl, rfl, trivial⟩⟩
      · have e5 : a = A.length := by omega
        have h2 : b < C.length := by omega
        obtain ⟨s, hs⟩ := ex_get h2
        have g1 : decide ((a : Int) < ((A.map fun s => [Str s]).length : Int)) = false := decide_eq_false (by rw [hAl]; omega)
        have g2 : decide ((b : Int) < ((C.map fun s => [Str s]).length : Int)) = true := decide_eq_true (by rw [hCl]; omega)
        refine LWp.seq ?_
        refine LWp.dd (gs := [(45, false), (51, false), (62, false)]) (hs := []) hmix rfl (by kernel_rfl) (by (repeat' (with_reducible apply And.intro)); (all_goals try first | (with_reducible exact trivial) | (with_reducible rfl) | (with_reducible assumption) | ((with_reducible apply isB); first | exact rfl | exact beq_self_eq_true _))) ?_
        refine LWp.ite (b := false) rfl (fun h => by cases h) (fun _ => ?_)
        refine LWp.seq ?_
        refine LWp.dd (gs := [(88, false), (94, false), (105, false)]) (hs := []) hmix rfl (by kernel_rfl) (by (repeat' (with_reducible apply And.intro)); (all_goals try first | (with_reducible exact trivial) | (with_reducible rfl) | (with_reducible assumption) | ((with_reducible apply isB); first | exact rfl | exact beq_self_eq_true _))) ?_
        refine LWp.ite (b := false) rfl (fun h => by cases h) (fun _ => ?_)
        refine LWp.seq ?_
        refine LWp.x (gs := [(136, false)]) (hs := []) rfl (by (repeat' (with_reducible apply And.intro)); (all_goals try first | (with_reducible exact trivial) | (with_reducible rfl) | (with_reducible assumption) | ((with_reducible apply isB); first | exact rfl | exact beq_self_eq_true _))) ?_
        refine LWp.ite (b := false) rfl (fun h => by cases h) (fun _ => ?_)
        have hk : kindF (A.drop a) (C.drop b) = 3 := by rw [e5, List.drop_length, drop_cons hs]; rfl
        rw [marksF_put hs hk] at hms
        refine LWp.sx (gs := []) (hs := [.cells [Str s], .ice]) rfl ⟨⟨by omega, by simp [hs]⟩, rfl, ⟨by show (_ + 1) * 24 ≤ _; rw [hmel]; omega, by show _ + 1 ≤ _; rw [hmel]; omega⟩, trivial⟩ ?_
        refine LWp.x (gs := []) (hs := []) rfl ⟨by omega, trivial⟩ ?_
        exact ⟨(a, b + 1, ms ++ [⟨3, s⟩]), ⟨by simp only; omega, by simp only; omega, by simp; omega, f', by simp only; omega, by rw [hms]; simp⟩, by simp only; omega, Ent.el ⟨rfl, rfl, rfl, by show _ = AV.lin _ _ ((ms ++ [_]).map Mark.enc); rw [List.map_append]; rfl, rfl, rfl, trivial⟩⟩
    · have he : ¬ (a < A.length ∨ b < C.length) := by simpa using he
      have e1 : a = A.length := by omega
      have e2 : b = C.length := by omega
      rw [e1, e2, List.drop_length, List.drop_length, marksF_none f rfl, List.append_nil] at hms
      refine LWp.exit ⟨(), trivial, Ent.el ⟨by rw [hms]; rfl, trivial⟩⟩
  intro _ _
  refine LWp.ent (Ent.freezeLin (t := 6) rfl) ?_
  refine LWp.sx (gs := []) (hs := []) rfl trivial ?_
  refine LWp.ret (retT (.inr rfl) (.one (.tmp ?_ rfl)))
  rfl
end Go.Px

namespace Go.Px
open Go.Proofs
def markE4 (m : Mark) (left : List Wd) : Int := match left with
  | [] => 4
  | x :: _ => if m.k = 1 ∧ m.w = x then 5 else 0
theorem markE_in {m : Mark} {left : List Wd} (hk : 0 ≤ m.k ∧ m.k ≤ 3) : markE m left = if (if m.k = 1 ∨ m.k = 3 then wordB m.w = false else m.w ≠ []) then 6 else if m.k = 3 then 0 else markE4 m left := by
  unfold markE
  rw [if_neg (by simp [hk])]
  rfl
def markV (m : Mark) (left : List Wd) : List Wd := if markE m left = 0 then markO m left else []
theorem rmark_ev (m : Mark) (left : List Wd) : Ev Try.prog 86 [.agg m.enc, strs left] (.tup [strs (markV m left), I (markE m left)]) := by
  have hll : (left.map fun s => [Str s]).length = left.length := List.length_map _
  have bad : ∀ {env : Env} {H : Heap} {e : Int}, markE m left = e → e ≠ 0 → env 4 = .sl 1 [] → env 5 = I e → retP Try.prog [.tmp 4, .tmp 5] (.tup [strs (markV m left), I (markE m left)]) .ret env H [] := by
    intro env H e h1 h2 h4 h5
    have hw : markV m left = [] := by unfold markV; rw [h1, if_neg h2]
    rw [h1, hw]
    exact retT (.inr rfl) (.many (by decide) ⟨.tmp h4 rfl, .tmp h5 rfl, trivial⟩)
  have good : ∀ {env : Env} {H : Heap} {x : List Wd}, markE m left = 0 → markO m left = x → env 4 = strs x → env 5 = I 0 → retP Try.prog [.tmp 4, .tmp 5] (.tup [strs (markV m left), I (markE m left)]) .ret env H [] := by
    intro env H x h1 h2 h4 h5
    have hw : markV m left = x := by unfold markV; rw [h1, if_pos rfl, h2]
    rw [h1, hw]
    exact retT (.inr rfl) (.many (by decide) ⟨.tmp h4 rfl, .tmp h5 rfl, trivial⟩)
  have hin := in_ev m.k 0 3
  have hwd := rWord_ev m.w
  refine Ev.intro fn86 ?_
  refine LWp.sx (gs := []) (hs := [.ice]) rfl ⟨⟨rfl, rfl⟩, trivial⟩ ?_
  refine LWp.seq (LWp.seq ?_)
  by_cases hk : 0 ≤ m.k ∧ m.k ≤ 3
  case neg =>
    have hE7 : markE m left = 7 := by unfold markE; rw [if_pos hk]
    have hb : (decide (0 ≤ m.k) && decide (m.k ≤ 3)) = false := by rw [Bool.eq_false_iff]; intro h; simp at h; exact hk h
    rw [hb] at hin
    refine LWp.x (gs := []) (hs := [.ret (B false)]) rfl ⟨hin, trivial⟩ ?_
    refine LWp.ite (b := true) rfl (fun _ => ?_) (fun h => by cases h)
    refine LWp.sx (gs := []) (hs := []) rfl trivial ?_
    refine LWp.ent (Ent.nilSl (t := 4) 1 rfl) ?_
    exact LWp.ret (bad hE7 (by decide) rfl rfl)
  have hb : (decide (0 ≤ m.k) && decide (m.k ≤ 3)) = true := by simp [hk]
  rw [hb] at hin
  refine LWp.x (gs := []) (hs := [.ret (B true)]) rfl ⟨hin, trivial⟩ ?_
  refine LWp.ite (b := false) rfl (fun h => by cases h) (fun _ => LWp.skip ?_)
  have hE := markE_in (left := left) hk
  refine LWp.cutX (fun _ : Unit => True) (fun _ => el [(1, strs left), (2, .pi m.enc), (4, .nil), (5, I 0), (6, B (decide (m.k = 1 ∨ m.k = 3)))]) (fun _ => []) (fun _ => []) ?_ ?_
  · by_cases h1 : m.k = 1
    · have g1 : (m.k == 1) = true := by rw [beq_iff_eq]; exact h1
      refine LWp.x (gs := [(14, true)]) (hs := []) rfl (by (repeat' (with_reducible apply And.intro)); (all_goals try first | (with_reducible exact trivial) | (with_reducible rfl) | (with_reducible assumption) | ((with_reducible apply isB); first | exact rfl | exact beq_self_eq_true _))) ?_
      refine ⟨(), trivial, Ent.el ⟨rfl, rfl, rfl, rfl, ?_, trivial⟩⟩
      show B _ = B _
      exact congrArg B (decide_eq_true (.inl h1)).symm
    · have g1 : (m.k == 1) = false := by rw [beq_eq_false_iff_ne]; exact h1
      refine LWp.x (gs := [(14, false)]) (hs := []) rfl (by (repeat' (with_reducible apply And.intro)); (all_goals try first | (with_reducible exact trivial) | (with_reducible rfl) | (with_reducible assumption) | ((with_reducible apply isB); first | exact rfl | exact beq_self_eq_true _))) ?_
      refine ⟨(), trivial, Ent.el ⟨rfl, rfl, rfl, rfl, ?_, trivial⟩⟩
      show B _ = B _
      refine congrArg B ?_
      rw [Bool.eq_iff_iff]; simp [h1]
  intro _ _
  refine LWp.seq (LWp.cutX (fun _ : Unit => True) (fun _ => el [(1, strs left), (2, .pi m.enc), (4, .nil), (5, I 0), (34, B (if m.k = 1 ∨ m.k = 3 then !wordB m.w else decide (m.w ≠ [])))]) (fun _ => []) (fun _ => []) ?_ ?_)
  · by_cases hw : m.k = 1 ∨ m.k = 3
    · have g1 : decide (m.k = 1 ∨ m.k = 3) = true := decide_eq_true hw
      have g2 : (!decide (m.k = 1 ∨ m.k = 3)) = false := by rw [g1]; rfl
      rw [g1]
      cases hwb : wordB m.w with
      | true =>
        rw [hwb] at hwd
        refine LWp.x (gs := [(20, true), (26, false), (29, false)]) (hs := [.ret (B true)]) rfl (by (repeat' (with_reducible apply And.intro)); (all_goals try first | (with_reducible exact trivial) | (with_reducible rfl) | (with_reducible assumption) | ((with_reducible apply isB); first | exact rfl | exact beq_self_eq_true _)); exact hwd) ?_
        refine ⟨(), trivial, Ent.el ⟨rfl, rfl, rfl, rfl, ?_, trivial⟩⟩
        show B _ = B _
        refine congrArg B ?_
        rw [if_pos hw]; rfl
      | false =>
        rw [hwb] at hwd
        refine LWp.x (gs := [(20, true), (26, true)]) (hs := [.ret (B false)]) rfl (by (repeat' (with_reducible apply And.intro)); (all_goals try first | (with_reducible exact trivial) | (with_reducible rfl) | (with_reducible assumption) | ((with_reducible apply isB); first | exact rfl | exact beq_self_eq_true _)); exact hwd) ?_
        refine ⟨(), trivial, Ent.el ⟨rfl, rfl, rfl, rfl, ?_, trivial⟩⟩
        show B _ = B _
        refine congrArg B ?_
        rw [if_pos hw]; rfl
    · have g1 : decide (m.k = 1 ∨ m.k = 3) = false := decide_eq_false hw
      rw [g1]
      refine LWp.x (gs := [(20, false), (26, false), (29, true)]) (hs := []) rfl (by (repeat' (with_reducible apply And.intro)); (all_goals try first | (with_reducible exact trivial) | (with_reducible rfl) | (with_reducible assumption) | ((with_reducible apply isB); first | exact rfl | exact beq_self_eq_true _))) ?_
      refine ⟨(), trivial, Ent.el ⟨rfl, rfl, rfl, rfl, ?_, trivial⟩⟩
      show B _ = B _
      refine congrArg B ?_
      rw [if_neg hw, Bool.eq_iff_iff]; simp
  intro _ _
  refine LWp.ite rfl (fun hc => ?_) (fun hc => LWp.skip ?_)
  · have hc : (if m.k = 1 ∨ m.k = 3 then wordB m.w = false else m.w ≠ []) := by
      by_cases hw : m.k = 1 ∨ m.k = 3
      · rw [if_pos hw] at hc ⊢; simpa using hc
      · rw [if_neg hw] at hc ⊢; simpa using hc
    rw [if_pos hc] at hE
    refine LWp.sx (gs := []) (hs := []) rfl trivial ?_
    refine LWp.ent (Ent.nilSl (t := 4) 1 rfl) ?_
    exact LWp.ret (bad hE (by decide) rfl rfl)
  have hc : ¬ (if m.k = 1 ∨ m.k = 3 then wordB m.w = false else m.w ≠ []) := by
    by_cases hw : m.k = 1 ∨ m.k = 3
    · rw [if_pos hw] at hc ⊢; simpa using hc
    · rw [if_neg hw] at hc ⊢; simpa using hc
  rw [if_neg hc] at hE
  refine LWp.seq (LWp.seq ?_)
  refine LWp.x (gs := []) (hs := []) rfl trivial ?_
  by_cases h3 : m.k = 3
  · rw [if_pos h3] at hE
    refine LWp.ite (b := true) (by show B _ = B _; exact congrArg B (by rw [beq_iff_eq]; exact h3)) (fun _ => ?_) (fun h => by cases h)
    refine LWp.sx (gs := []) (hs := [.ice]) rfl ⟨rfl, trivial⟩ ?_
    exact LWp.ret (good (x := [m.w]) hE (by unfold markO; rw [if_neg (by omega), if_neg (by omega)]) rfl rfl)
  rw [if_neg h3] at hE
  refine LWp.ite (b := false) (by show B _ = B _; exact congrArg B (by rw [beq_eq_false_iff_ne]; exact h3)) (fun h => by cases h) (fun _ => LWp.skip ?_)
  refine LWp.seq (LWp.seq ?_)
  refine LWp.x (gs := []) (hs := []) rfl trivial ?_
  cases left with
  | nil =>
    refine LWp.ite (b := true) rfl (fun _ => ?_) (fun h => by cases h)
    refine LWp.sx (gs := []) (hs := []) rfl trivial ?_
    refine LWp.ent (Ent.nilSl (t := 4) 1 rfl) ?_
    exact LWp.ret (bad (e := 4) hE (by decide) rfl rfl)
  | cons x xs =>
  simp only [markE4] at hE
  refine LWp.ite (b := false) (by show B _ = B _; exact congrArg B (by rw [beq_eq_false_iff_ne, hll]; simp only [List.length_cons]; omega)) (fun h => by cases h) (fun _ => LWp.skip ?_)
  refine LWp.seq (LWp.seq ?_)
  refine LWp.x (gs := []) (hs := []) rfl trivial ?_
  by_cases h2 : m.k = 2
  · rw [if_neg (by omega)] at hE
    refine LWp.ite (b := true) (by show B _ = B _; exact congrArg B (by rw [beq_iff_eq]; exact h2)) (fun _ => ?_) (fun h => by cases h)
    refine LWp.sx (gs := []) (hs := []) rfl trivial ?_
    refine LWp.ent (Ent.nilSl (t := 4) 1 rfl) ?_
    exact LWp.ret (good (x := []) hE (by unfold markO; rw [if_neg (by omega), if_pos h2]) rfl rfl)
  refine LWp.ite (b := false) (by show B _ = B _; exact congrArg B (by rw [beq_eq_false_iff_ne]; exact h2)) (fun h => by cases h) (fun _ => LWp.skip ?_)
  refine LWp.seq (LWp.seq ?_)
  refine LWp.x (gs := []) (hs := []) rfl trivial ?_
  by_cases h0 : m.k = 0
  · rw [if_neg (by omega)] at hE
    refine LWp.ite (b := true) (by show B _ = B _; exact congrArg B (by rw [beq_iff_eq]; exact h0)) (fun _ => ?_) (fun h => by cases h)
    refine LWp.sx (gs := []) (hs := []) rfl ⟨⟨⟨trivial, by decide⟩, by simp, by simp⟩, trivial⟩ ?_
    exact LWp.ret (good (x := [x]) hE (by unfold markO; rw [if_pos h0]; rfl) rfl rfl)
  refine LWp.ite (b := false) (by show B _ = B _; exact congrArg B (by rw [beq_eq_false_iff_ne]; exact h0)) (fun h => by cases h) (fun _ => LWp.skip ?_)
  have h1 : m.k = 1 := by omega
  refine LWp.seq (LWp.seq ?_)
  refine LWp.dd (gs := []) (hs := [.cells [Str x]]) hmix rfl (by kernel_rfl) ⟨⟨by decide, rfl⟩, trivial⟩ ?_
  by_cases hx : m.w = x
  · rw [if_pos ⟨h1, hx⟩] at hE
    refine LWp.ite (b := true) (by show B _ = B _; exact congrArg B (by simp [hx])) (fun _ => ?_) (fun h => by cases h)
    refine LWp.sx (gs := []) (hs := []) rfl trivial ?_
    refine LWp.ent (Ent.nilSl (t := 4) 1 rfl) ?_
    exact LWp.ret (bad (e := 5) hE (by decide) rfl rfl)
  · rw [if_neg (fun h => hx h.2)] at hE
    refine LWp.ite (b := false) (by show B _ = B _; exact congrArg B (by simp [Ne.symm hx])) (fun h => by cases h) (fun _ => LWp.skip ?_)
    refine LWp.sx (gs := []) (hs := [.ice]) rfl ⟨rfl, trivial⟩ ?_
    exact LWp.ret (good (x := [m.w]) hE (by unfold markO; rw [if_neg (by omega), if_neg (by omega)]) rfl rfl)
end Go.Px

