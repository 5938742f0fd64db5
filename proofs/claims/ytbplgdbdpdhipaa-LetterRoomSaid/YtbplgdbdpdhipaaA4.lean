/- Part 4 of the proofs of the statements of this seat (a logic of pure contracts, the functions lowered, their contracts). No conditions. -/
import Derived.Test.YtbplgdbdpdhipaaA3
import Derived.Test.YtbplgdbdpdhipaaChecked
import Derived.KernelRfl
import Derived.Lib.Builder
import Derived.Lib.Walk
import Derived.WalkKit
import Derived.Laws.Externs
namespace Go.Px
open Go.Proofs
abbrev tm (n : Nat) : Operand := .tmp n
abbrev kc (n : Int) : Operand := .const (.int .i64 n)
set_option maxRecDepth 100000
theorem hmix : Try.prog.follows .mixedOrders = true := by kernel_rfl
def L16 : LCode :=
 (.seq
 (.ops [⟨(some 1), none, .box 24 (tm 0)⟩,
 ⟨(some 2), none, .mov (kc 0)⟩,
 ⟨(some 3), none, .mov (kc 0)⟩,
 ⟨(some 4), none, .mov (kc 0)⟩])
 (.seq
 (.block 0
 (.seq
 (.ops [⟨(some 10), none, .faddr 24 (tm 1) 0 0⟩,
 ⟨(some 11), none, .load 3 (tm 10) none⟩,
 ⟨(some 12), none, .bslice 35 1 [(0, (tm 11))] 3 1 [(.int .i64 0)]⟩,
 ⟨(some 13), none, .call 57 [(kc 8), (kc 30), (tm 12)] 4⟩,
 ⟨(some 9), none, .mov (tm 13)⟩])
 (.ite (tm 9)
 (.seq
 (.ops [⟨(some 2), none, .mov (kc 1)⟩,
 ⟨(some 3), none, .mov (kc 0)⟩,
 ⟨(some 4), none, .mov (kc 7)⟩])
 .ret)
 (.seq
 (.ops [⟨(some 15), none, .faddr 24 (tm 1) 1 1⟩,
 ⟨(some 16), none, .load 22 (tm 15) none⟩,
 ⟨(some 17), none, .len false 22 3 (tm 16)⟩,
 ⟨(some 18), none, .bin .gtr 3 (tm 17) (kc 4)⟩,
 ⟨(some 14), none, .mov (tm 18)⟩])
 (.ite (tm 14)
 (.seq
 (.ops [⟨(some 2), none, .mov (kc 2)⟩,
 ⟨(some 3), none, .mov (kc 0)⟩,
 ⟨(some 4), none, .mov (kc 3)⟩])
 .ret)
 .skip)))))
 (.seq
 (.seq
 (.ops [⟨(some 19), none, .faddr 24 (tm 1) 1 1⟩,
 ⟨(some 20), none, .load 22 (tm 19) none⟩,
 ⟨(some 21), none, .len false 22 3 (tm 20)⟩,
 ⟨(some 22), none, .mov (kc 0)⟩])
 (.block 1
 (.loop
 (.seq
 (.ops [⟨(some 23), none, .bin .lss 3 (tm 22) (tm 21)⟩])
 (.seq
 (.ite (tm 23)
 .skip
 (.exit 1))
 (.seq
 (.block 2
 (.seq
 (.ops [⟨(some 24), none, .mov (tm 22)⟩,
 ⟨(some 25), none, .iaddr 22 (tm 20) (tm 22) 2⟩,
 ⟨(some 26), none, .load 64 (tm 25) (some 2)⟩,
 ⟨(some 6), none, .alloc 64 [(.string ⟨#[]⟩), (.slice none 0 0)]⟩,
 ⟨(some 5), none, .mov (tm 24)⟩,
 ⟨none, none, .store 64 (tm 6) (tm 26) 2⟩])
 (.seq
 (.block 3
 (.seq
 (.ops [⟨(some 28), none, .faddr 64 (tm 6) 0 0⟩,
 ⟨(some 29), none, .load 9 (tm 28) none⟩,
 ⟨(some 30), none, .call 58 [(tm 29)] 4⟩,
 ⟨(some 31), none, .un .not (tm 30)⟩,
 ⟨(some 27), none, .mov (tm 31)⟩])
 (.ite (tm 27)
 (.seq
 (.ops [⟨(some 32), none, .mov (tm 5)⟩,
 ⟨(some 2), none, .mov (kc 2)⟩,
 ⟨(some 3), none, .mov (tm 32)⟩,
 ⟨(some 4), none, .mov (kc 6)⟩])
 .ret)
 (.seq
 (.ops [⟨(some 34), none, .faddr 24 (tm 1) 1 1⟩,
 ⟨(some 35), none, .load 22 (tm 34) none⟩,
 ⟨(some 36), none, .mov (tm 5)⟩,
 ⟨(some 37), none, .sliceE 22 (tm 35) none (some (tm 36)) none 2⟩,
 ⟨(some 38), none, .mkfn (.func 60) [] [(tm 6)]⟩,
 ⟨(some 39), none, .call 59 [(tm 37), (tm 38)] 4⟩,
 ⟨(some 33), none, .mov (tm 39)⟩])
 (.ite (tm 33)
 (.seq
 (.ops [⟨(some 40), none, .mov (tm 5)⟩,
 ⟨(some 2), none, .mov (kc 2)⟩,
 ⟨(some 3), none, .mov (tm 40)⟩,
 ⟨(some 4), none, .mov (kc 5)⟩])
 .ret)
 (.seq
 (.ops [⟨(some 42), none, .faddr 64 (tm 6) 1 1⟩,
 ⟨(some 43), none, .load 62 (tm 42) none⟩,
 ⟨(some 44), none, .len false 62 3 (tm 43)⟩,
 ⟨(some 45), none, .bin .gtr 3 (tm 44) (kc 5)⟩,
 ⟨(some 41), none, .mov (tm 45)⟩])
 (.ite (tm 41)
 (.seq
 (.ops [⟨(some 46), none, .mov (tm 5)⟩,
 ⟨(some 2), none, .mov (kc 2)⟩,
 ⟨(some 3), none, .mov (tm 46)⟩,
 ⟨(some 4), none, .mov (kc 3)⟩])
 .ret)
 .skip)))))))
 (.seq
 (.ops [⟨(some 47), none, .faddr 64 (tm 6) 1 1⟩,
 ⟨(some 48), none, .load 62 (tm 47) none⟩,
 ⟨(some 49), none, .len false 62 3 (tm 48)⟩,
 ⟨(some 50), none, .mov (kc 0)⟩])
 (.block 4
 (.loop
 (.seq
 (.ops [⟨(some 51), none, .bin .lss 3 (tm 50) (tm 49)⟩])
 (.seq
 (.ite (tm 51)
 .skip
 (.exit 4))
 (.seq
 (.block 5
 (.seq
 (.ops [⟨(some 52), none, .iaddr 62 (tm 48) (tm 50) 3⟩,
 ⟨(some 53), none, .load 84 (tm 52) (some 3)⟩,
 ⟨(some 8), none, .alloc 84 [(.slice none 0 0), (.int .i64 0), (.int .i64 0)]⟩,
 ⟨none, none, .store 84 (tm 8) (tm 53) 3⟩])
 (.seq
 (.ops [⟨(some 54), none, .load 84 (tm 8) (some 3)⟩,
 ⟨(some 55), none, .call 61 [(tm 54)] 26⟩,
 ⟨(some 4), none, .mov (tm 55)⟩])
 (.seq
 (.ops [⟨(some 56), none, .mov (tm 4)⟩,
 ⟨(some 57), none, .bin .neq 26 (tm 56) (kc 0)⟩])
 (.ite (tm 57)
 (.seq
 (.ops [⟨(some 58), none, .mov (tm 5)⟩,
 ⟨(some 59), none, .mov (tm 4)⟩,
 ⟨(some 2), none, .mov (kc 2)⟩,
 ⟨(some 3), none, .mov (tm 58)⟩,
 ⟨(some 4), none, .mov (tm 59)⟩])
 .ret)
 .skip)))))
 (.ops [⟨(some 60), none, .bin .add 3 (tm 50) (kc 1)⟩,
 ⟨(some 50), none, .mov (tm 60)⟩]))))))))))
 (.ops [⟨(some 61), none, .bin .add 3 (tm 22) (kc 1)⟩,
 ⟨(some 22), none, .mov (tm 61)⟩])))))))
 (.seq
 (.ops [⟨(some 2), none, .mov (kc 0)⟩,
 ⟨(some 3), none, .mov (kc 0)⟩,
 ⟨(some 4), none, .mov (kc 0)⟩])
 .ret))))
theorem fn16 : FnOK Try.prog 16 62 [.tmp 2, .tmp 3, .tmp 4] L16 := ⟨Try.f16, Try.func16, by kernel_rfl, Try.ntmps16, by rw [Try.results16], by kernel_rfl⟩
def L18 : LCode :=
 (.seq
 (.ops [⟨(some 3), none, .box 24 (tm 0)⟩,
 ⟨(some 6), none, .mov (.const (.slice none 0 0))⟩,
 ⟨(some 7), none, .mov (kc 0)⟩])
 (.seq
 (.ops [⟨(some 15), none, .load 24 (tm 3) (some 2)⟩,
 ⟨(some 16), none, .mov (tm 1)⟩,
 ⟨(some 17), none, .call 64 [(tm 15), (tm 16)] 95⟩,
 ⟨(some 14), none, .mov (tm 17)⟩,
 ⟨(some 18), none, .extract (tm 14) 0⟩,
 ⟨(some 19), none, .extract (tm 14) 1⟩,
 ⟨(some 8), none, .mov (tm 18)⟩,
 ⟨(some 7), none, .mov (tm 19)⟩])
 (.seq
 (.block 0
 (.seq
 (.ops [⟨(some 21), none, .mov (tm 7)⟩,
 ⟨(some 22), none, .bin .neq 26 (tm 21) (kc 0)⟩,
 ⟨(some 20), none, .mov (tm 22)⟩])
 (.ite (tm 20)
 (.seq
 (.ops [⟨(some 23), none, .mov (tm 7)⟩,
 ⟨(some 6), none, .mov (.const (.slice none 0 0))⟩,
 ⟨(some 7), none, .mov (tm 23)⟩])
 .ret)
 (.seq
 (.ops [⟨(some 25), none, .mov (tm 2)⟩,
 ⟨(some 26), none, .len false 25 3 (tm 25)⟩,
 ⟨(some 27), none, .mov (tm 8)⟩,
 ⟨(some 28), none, .nilck (tm 27)⟩,
 ⟨(some 29), none, .faddr 99 (tm 28) 1 2⟩,
 ⟨(some 30), none, .load 97 (tm 29) none⟩,
 ⟨(some 31), none, .len false 97 3 (tm 30)⟩,
 ⟨(some 32), none, .bin .neq 3 (tm 26) (tm 31)⟩,
 ⟨(some 24), none, .mov (tm 32)⟩])
 (.ite (tm 24)
 (.seq
 (.ops [⟨(some 6), none, .mov (.const (.slice none 0 0))⟩,
 ⟨(some 7), none, .mov (kc 3)⟩])
 .ret)
 .skip)))))
 (.seq
 (.seq
 (.ops [⟨(some 33), none, .mov (tm 2)⟩,
 ⟨(some 34), none, .len false 25 3 (tm 33)⟩,
 ⟨(some 35), none, .mov (kc 0)⟩])
 (.block 1
 (.loop
 (.seq
 (.ops [⟨(some 36), none, .bin .lss 3 (tm 35) (tm 34)⟩])
 (.seq
 (.ite (tm 36)
 .skip
 (.exit 1))
 (.seq
 (.block 2
 (.seq
 (.ops [⟨(some 37), none, .mov (tm 35)⟩,
 ⟨(some 38), none, .iaddr 25 (tm 33) (tm 35) 1⟩,
 ⟨(some 39), none, .load 29 (tm 38) none⟩,
 ⟨(some 9), none, .mov (tm 37)⟩,
 ⟨(some 10), none, .mov (tm 39)⟩])
 (.seq
 (.seq
 (.dops [(⟨(some 40), none, .mov (tm 8)⟩, []),
 (⟨(some 41), none, .nilck (tm 40)⟩, [0]),
 (⟨(some 42), none, .faddr 99 (tm 41) 1 2⟩, [1]),
 (⟨(some 43), none, .load 97 (tm 42) none⟩, [2]),
 (⟨(some 44), none, .mov (tm 9)⟩, []),
 (⟨(some 45), none, .iaddr 97 (tm 43) (tm 44) 2⟩, [3, 4]),
 (⟨(some 46), none, .faddr 82 (tm 45) 0 0⟩, [5]),
 (⟨(some 47), none, .load 3 (tm 46) none⟩, [6]),
 (⟨(some 48), none, .mov (tm 8)⟩, []),
 (⟨(some 49), none, .nilck (tm 48)⟩, [8]),
 (⟨(some 50), none, .faddr 99 (tm 49) 1 2⟩, [9]),
 (⟨(some 51), none, .load 97 (tm 50) none⟩, [10]),
 (⟨(some 52), none, .mov (tm 9)⟩, []),
 (⟨(some 53), none, .iaddr 97 (tm 51) (tm 52) 2⟩, [11, 12]),
 (⟨(some 54), none, .faddr 82 (tm 53) 1 1⟩, [13]),
 (⟨(some 55), none, .load 3 (tm 54) none⟩, [14]),
 (⟨(some 56), none, .mov (tm 10)⟩, []),
 (⟨(some 57), none, .len false 29 3 (tm 56)⟩, [16]),
 (⟨(some 58), none, .bslice 35 1 [(0, (tm 57))] 3 1 [(.int .i64 0)]⟩, [17]),
 (⟨(some 59), none, .call 57 [(tm 47), (tm 55), (tm 58)] 4⟩, [7, 15, 18])])
 (.ite (tm 59)
 (.seq
 (.ops [⟨(some 6), none, .mov (.const (.slice none 0 0))⟩,
 ⟨(some 7), none, .mov (kc 7)⟩])
 .ret)
 .skip))
 (.seq
 (.ops [⟨(some 60), none, .mov (tm 10)⟩,
 ⟨(some 61), none, .call 65 [(tm 60)] 26⟩,
 ⟨(some 7), none, .mov (tm 61)⟩])
 (.seq
 (.ops [⟨(some 62), none, .mov (tm 7)⟩,
 ⟨(some 63), none, .bin .neq 26 (tm 62) (kc 0)⟩])
 (.ite (tm 63)
 (.seq
 (.ops [⟨(some 64), none, .mov (tm 7)⟩,
 ⟨(some 6), none, .mov (.const (.slice none 0 0))⟩,
 ⟨(some 7), none, .mov (tm 64)⟩])
 .ret)
 .skip))))))
 (.ops [⟨(some 65), none, .bin .add 3 (tm 35) (kc 1)⟩,
 ⟨(some 35), none, .mov (tm 65)⟩])))))))
 (.seq
 (.ops [⟨(some 11), none, .mov (kc 0)⟩])
 (.seq
 (.seq
 (.ops [⟨(some 66), none, .mov (tm 8)⟩,
 ⟨(some 67), none, .nilck (tm 66)⟩,
 ⟨(some 68), none, .faddr 99 (tm 67) 0 0⟩,
 ⟨(some 69), none, .faddr 64 (tm 68) 1 1⟩,
 ⟨(some 70), none, .load 62 (tm 69) none⟩,
 ⟨(some 71), none, .len false 62 3 (tm 70)⟩,
 ⟨(some 72), none, .mov (kc 0)⟩])
 (.block 3
 (.loop
 (.seq
 (.ops [⟨(some 73), none, .bin .lss 3 (tm 72) (tm 71)⟩])
 (.seq
 (.ite (tm 73)
 .skip
 (.exit 3))
 (.seq
 (.block 4
 (.seq
 (.ops [⟨(some 74), none, .iaddr 62 (tm 70) (tm 72) 3⟩,
 ⟨(some 75), none, .load 84 (tm 74) (some 3)⟩,
 ⟨(some 13), none, .alloc 84 [(.slice none 0 0), (.int .i64 0), (.int .i64 0)]⟩,
 ⟨none, none, .store 84 (tm 13) (tm 75) 3⟩])
 (.seq
 (.seq
 (.ops [⟨(some 76), none, .faddr 84 (tm 13) 0 0⟩,
 ⟨(some 77), none, .load 29 (tm 76) none⟩,
 ⟨(some 78), none, .len false 29 3 (tm 77)⟩,
 ⟨(some 79), none, .bin .eql 3 (tm 78) (kc 0)⟩])
 (.ite (tm 79)
 (.seq
 (.ops [⟨(some 80), none, .mov (tm 6)⟩,
 ⟨(some 81), none, .mov (tm 2)⟩,
 ⟨(some 82), none, .mov (tm 11)⟩,
 ⟨(some 83), none, .iaddr 25 (tm 81) (tm 82) 1⟩,
 ⟨(some 84), none, .load 29 (tm 83) none⟩,
 ⟨(some 85), none, .append 29 29 (tm 80) (tm 84) 9 1 16 [(.string ⟨#[]⟩)]⟩,
 ⟨(some 6), none, .mov (tm 85)⟩])
 (.ops [⟨(some 86), none, .mov (tm 11)⟩,
 ⟨(some 87), none, .bin .add 3 (tm 86) (kc 1)⟩,
 ⟨(some 11), none, .mov (tm 87)⟩]))
 .skip))
 (.ops [⟨(some 88), none, .mov (tm 6)⟩,
 ⟨(some 89), none, .faddr 84 (tm 13) 0 0⟩,
 ⟨(some 90), none, .load 29 (tm 89) none⟩,
 ⟨(some 91), none, .append 29 29 (tm 88) (tm 90) 9 1 16 [(.string ⟨#[]⟩)]⟩,
 ⟨(some 6), none, .mov (tm 91)⟩]))))
 (.ops [⟨(some 92), none, .bin .add 3 (tm 72) (kc 1)⟩,
 ⟨(some 72), none, .mov (tm 92)⟩])))))))
 (.seq
 (.ops [⟨(some 93), none, .mov (tm 6)⟩,
 ⟨(some 6), none, .mov (tm 93)⟩,
 ⟨(some 7), none, .mov (kc 0)⟩])
 .ret)))))))
theorem fn18 : FnOK Try.prog 18 94 [.tmp 6, .tmp 7] L18 := ⟨Try.f18, Try.func18, by kernel_rfl, Try.ntmps18, by rw [Try.results18], by kernel_rfl⟩
def L20 : LCode :=
 (.seq
 (.ops [⟨(some 4), none, .mov (.const (.bool false))⟩])
 (.seq
 (.seq
 (.ops [⟨(some 6), none, .mov (tm 0)⟩,
 ⟨(some 7), none, .len false 29 3 (tm 6)⟩,
 ⟨(some 8), none, .mov (tm 1)⟩,
 ⟨(some 9), none, .len false 29 3 (tm 8)⟩,
 ⟨(some 10), none, .bin .neq 3 (tm 7) (tm 9)⟩])
 (.ite (tm 10)
 (.seq
 (.ops [⟨(some 4), none, .mov (.const (.bool false))⟩])
 .ret)
 .skip))
 (.seq
 (.seq
 (.ops [⟨(some 5), none, .mov (kc 0)⟩])
 (.block 0
 (.loop
 (.seq
 (.seq
 (.ops [⟨(some 11), none, .mov (tm 5)⟩,
 ⟨(some 12), none, .mov (tm 0)⟩,
 ⟨(some 13), none, .len false 29 3 (tm 12)⟩,
 ⟨(some 14), none, .bin .lss 3 (tm 11) (tm 13)⟩])
 (.ite (tm 14)
 .skip
 (.exit 0)))
 (.seq
 (.block 1
 (.seq
 (.dops [(⟨(some 17), none, .mov (tm 0)⟩, []),
 (⟨(some 18), none, .mov (tm 5)⟩, []),
 (⟨(some 19), none, .iaddr 29 (tm 17) (tm 18) 1⟩, [0, 1]),
 (⟨(some 20), none, .load 9 (tm 19) none⟩, [2]),
 (⟨(some 21), none, .mov (tm 1)⟩, []),
 (⟨(some 22), none, .mov (tm 5)⟩, []),
 (⟨(some 23), none, .iaddr 29 (tm 21) (tm 22) 1⟩, [4, 5]),
 (⟨(some 24), none, .load 9 (tm 23) none⟩, [6]),
 (⟨(some 25), none, .bin .neq 9 (tm 20) (tm 24)⟩, [3, 7])])
 (.ite (tm 25)
 (.seq
 (.ops [⟨(some 4), none, .mov (.const (.bool false))⟩])
 .ret)
 .skip)))
 (.ops [⟨(some 15), none, .mov (tm 5)⟩,
 ⟨(some 16), none, .bin .add 3 (tm 15) (kc 1)⟩,
 ⟨(some 5), none, .mov (tm 16)⟩]))))))
 (.seq
 (.ops [⟨(some 4), none, .mov (.const (.bool true))⟩])
 .ret))))
theorem fn20 : FnOK Try.prog 20 26 [.tmp 4] L20 := ⟨Try.f20, Try.func20, by kernel_rfl, Try.ntmps20, by rw [Try.results20], by kernel_rfl⟩
def L21 : LCode :=
 (.seq
 (.ops [⟨(some 0), none, .mov (.const (.bool false))⟩])
 (.seq
 (.ops [⟨(some 31), none, .call 41 [] 24⟩,
 ⟨(some 1), none, .alloc 24 [(.int .i64 0), (.slice none 0 0)]⟩,
 ⟨none, none, .store 24 (tm 1) (tm 31) 2⟩])
 (.seq
 (.ops [⟨(some 32), none, .call 42 [(.const (.string ⟨#[116, 111, 32, 116, 104, 101, 32, 106, 117, 100, 103, 101, 32, 105, 32, 97, 115, 107, 32, 109, 101, 114, 99, 121]⟩))] 29⟩,
 ⟨(some 33), none, .call 42 [(.const (.string ⟨#[116, 111, 32, 106, 117, 100, 103, 101, 32, 105, 32, 97, 115, 107, 32, 102, 111, 114, 32, 109, 101, 114, 99, 121]⟩))] 29⟩,
 ⟨(some 2), none, .mov (tm 32)⟩,
 ⟨(some 3), none, .mov (tm 33)⟩])
 (.seq
 (.dops [(⟨(some 35), none, .load 24 (tm 1) (some 2)⟩, []),
 (⟨(some 36), none, .call 42 [(.const (.string ⟨#[106, 117, 100, 103, 101]⟩))] 29⟩, []),
 (⟨(some 37), none, .call 42 [(.const (.string ⟨#[109, 101, 114, 99, 121]⟩))] 29⟩, [1]),
 (⟨(some 38), none, .bslice 25 2 [(0, (tm 36)), (1, (tm 37))] 29 1 [(.slice none 0 0)]⟩, [1, 2]),
 (⟨(some 39), none, .call 18 [(tm 35), (kc 0), (tm 38)] 30⟩, [0, 3, 2]),
 (⟨(some 34), none, .mov (tm 39)⟩, [4]),
 (⟨(some 40), none, .extract (tm 34) 0⟩, [5]),
 (⟨(some 41), none, .extract (tm 34) 1⟩, [5]),
 (⟨(some 4), none, .mov (tm 40)⟩, [6, 4, 0, 1, 2, 3, 4, 5, 6]),
 (⟨(some 5), none, .mov (tm 41)⟩, [7, 8, 0, 1, 2, 3, 4, 5, 6, 7, 8])])
 (.seq
 (.dops [(⟨(some 43), none, .load 24 (tm 1) (some 2)⟩, []),
 (⟨(some 44), none, .call 42 [(.const (.string ⟨#[97, 32, 98, 32, 99]⟩))] 29⟩, []),
 (⟨(some 45), none, .call 22 [(tm 43), (tm 44)] 36⟩, [0, 1, 1]),
 (⟨(some 42), none, .mov (tm 45)⟩, [2]),
 (⟨(some 46), none, .extract (tm 42) 0⟩, [3]),
 (⟨(some 47), none, .extract (tm 42) 1⟩, [3]),
 (⟨(some 6), none, .mov (tm 46)⟩, [4, 2, 0, 1, 2, 3, 4]),
 (⟨(some 7), none, .mov (tm 47)⟩, [5, 6, 0, 1, 2, 3, 4, 5, 6])])
 (.seq
 (.dops [(⟨(some 49), none, .load 24 (tm 1) (some 2)⟩, []),
 (⟨(some 50), none, .call 42 [(.const (.string ⟨#[97, 32, 98, 32, 99]⟩))] 29⟩, []),
 (⟨(some 51), none, .call 25 [(tm 49), (kc 2), (tm 50)] 39⟩, [0, 1, 1]),
 (⟨(some 48), none, .mov (tm 51)⟩, [2]),
 (⟨(some 52), none, .extract (tm 48) 0⟩, [3]),
 (⟨(some 53), none, .extract (tm 48) 1⟩, [3]),
 (⟨(some 54), none, .extract (tm 48) 2⟩, [3]),
 (⟨(some 8), none, .mov (tm 52)⟩, [4, 2, 0, 1, 2, 3, 4]),
 (⟨(some 9), none, .mov (tm 53)⟩, [5, 7, 0, 1, 2, 3, 4, 5, 7]),
 (⟨(some 10), none, .mov (tm 54)⟩, [6, 8, 0, 1, 2, 3, 4, 5, 6, 7, 8])])
 (.seq
 (.ops [⟨(some 56), none, .load 24 (tm 1) (some 2)⟩,
 ⟨(some 57), none, .mov (tm 2)⟩,
 ⟨(some 58), none, .call 28 [(tm 56), (tm 57)] 43⟩,
 ⟨(some 55), none, .mov (tm 58)⟩,
 ⟨(some 59), none, .extract (tm 55) 0⟩,
 ⟨(some 60), none, .extract (tm 55) 1⟩,
 ⟨(some 11), none, .mov (tm 59)⟩,
 ⟨(some 12), none, .mov (tm 60)⟩])
 (.seq
 (.ops [⟨(some 62), none, .load 24 (tm 1) (some 2)⟩,
 ⟨(some 63), none, .call 30 [(tm 62), (.const (.string ⟨#[116, 111, 32, 116, 104, 101, 32, 106, 117, 100, 103, 101, 10, 105, 32, 97, 115, 107, 32, 109, 101, 114, 99, 121, 10]⟩))] 30⟩,
 ⟨(some 61), none, .mov (tm 63)⟩,
 ⟨(some 64), none, .extract (tm 61) 0⟩,
 ⟨(some 65), none, .extract (tm 61) 1⟩,
 ⟨(some 13), none, .mov (tm 64)⟩,
 ⟨(some 14), none, .mov (tm 65)⟩])
 (.seq
 (.ops [⟨(some 67), none, .mov (tm 2)⟩,
 ⟨(some 68), none, .mov (tm 3)⟩,
 ⟨(some 69), none, .call 32 [(tm 67), (tm 68)] 48⟩,
 ⟨(some 66), none, .mov (tm 69)⟩,
 ⟨(some 70), none, .extract (tm 66) 0⟩,
 ⟨(some 71), none, .extract (tm 66) 1⟩,
 ⟨(some 72), none, .extract (tm 66) 2⟩,
 ⟨(some 15), none, .mov (tm 70)⟩,
 ⟨(some 16), none, .mov (tm 71)⟩,
 ⟨(some 17), none, .mov (tm 72)⟩])
 (.seq
 (.ops [⟨(some 74), none, .mov (tm 2)⟩,
 ⟨(some 75), none, .call 69 [] 47⟩,
 ⟨(some 76), none, .call 35 [(tm 74), (tm 75)] 30⟩,
 ⟨(some 73), none, .mov (tm 76)⟩,
 ⟨(some 77), none, .extract (tm 73) 0⟩,
 ⟨(some 78), none, .extract (tm 73) 1⟩,
 ⟨(some 18), none, .mov (tm 77)⟩,
 ⟨(some 19), none, .mov (tm 78)⟩])
 (.seq
 (.ops [⟨(some 80), none, .load 24 (tm 1) (some 2)⟩,
 ⟨(some 81), none, .mov (tm 2)⟩,
 ⟨(some 82), none, .call 37 [(tm 80), (kc 2), (tm 81)] 53⟩,
 ⟨(some 79), none, .mov (tm 82)⟩,
 ⟨(some 83), none, .extract (tm 79) 0⟩,
 ⟨(some 84), none, .extract (tm 79) 1⟩,
 ⟨(some 20), none, .mov (tm 83)⟩,
 ⟨(some 21), none, .mov (tm 84)⟩])
 (.seq
 (.ops [⟨(some 86), none, .load 24 (tm 1) (some 2)⟩,
 ⟨(some 87), none, .mov (tm 2)⟩,
 ⟨(some 88), none, .call 39 [(tm 86), (tm 87)] 27⟩,
 ⟨(some 85), none, .mov (tm 88)⟩,
 ⟨(some 89), none, .extract (tm 85) 0⟩,
 ⟨(some 90), none, .extract (tm 85) 1⟩,
 ⟨(some 91), none, .extract (tm 85) 2⟩,
 ⟨(some 22), none, .mov (tm 89)⟩,
 ⟨(some 23), none, .mov (tm 90)⟩,
 ⟨(some 24), none, .mov (tm 91)⟩])
 (.seq
 (.ops [⟨(some 93), none, .load 24 (tm 1) (some 2)⟩,
 ⟨(some 94), none, .call 30 [(tm 93), (.const (.string ⟨#[116, 111, 32, 116, 104, 101, 10]⟩))] 30⟩,
 ⟨(some 92), none, .mov (tm 94)⟩,
 ⟨(some 95), none, .extract (tm 92) 0⟩,
 ⟨(some 96), none, .extract (tm 92) 1⟩,
 ⟨(some 25), none, .mov (tm 95)⟩,
 ⟨(some 26), none, .mov (tm 96)⟩])
 (.seq
 (.ops [⟨(some 98), none, .load 24 (tm 1) (some 2)⟩,
 ⟨(some 99), none, .call 30 [(tm 98), (.const (.string ⟨#[116, 111, 32, 116, 104, 101, 32, 106, 117, 100, 103, 101, 32, 105, 10, 97, 115, 107, 32, 109, 101, 114, 99, 121, 10]⟩))] 30⟩,
 ⟨(some 97), none, .mov (tm 99)⟩,
 ⟨(some 100), none, .extract (tm 97) 0⟩,
 ⟨(some 101), none, .extract (tm 97) 1⟩,
 ⟨(some 27), none, .mov (tm 100)⟩,
 ⟨(some 28), none, .mov (tm 101)⟩])
 (.seq
 (.ops [⟨(some 103), none, .load 24 (tm 1) (some 2)⟩,
 ⟨(some 104), none, .mov (tm 2)⟩,
 ⟨(some 105), none, .call 37 [(tm 103), (kc 3), (tm 104)] 53⟩,
 ⟨(some 102), none, .mov (tm 105)⟩,
 ⟨(some 106), none, .extract (tm 102) 0⟩,
 ⟨(some 107), none, .extract (tm 102) 1⟩,
 ⟨(some 29), none, .mov (tm 106)⟩,
 ⟨(some 30), none, .mov (tm 107)⟩])
 (.seq
 (.ops [⟨(some 108), none, .mov (tm 5)⟩,
 ⟨(some 109), none, .bin .eql 26 (tm 108) (kc 0)⟩,
 ⟨(some 110), none, .mov (tm 109)⟩,
 ⟨(some 111), some (110, true), .mov (tm 7)⟩,
 ⟨(some 112), some (110, true), .bin .eql 26 (tm 111) (kc 0)⟩,
 ⟨(some 113), none, .pick (tm 110) (tm 112) (.const (.bool false))⟩,
 ⟨(some 114), none, .mov (tm 113)⟩,
 ⟨(some 115), some (114, true), .mov (tm 10)⟩,
 ⟨(some 116), some (114, true), .bin .eql 26 (tm 115) (kc 0)⟩,
 ⟨(some 117), none, .pick (tm 114) (tm 116) (.const (.bool false))⟩,
 ⟨(some 118), none, .mov (tm 117)⟩,
 ⟨(some 119), some (118, true), .mov (tm 12)⟩,
 ⟨(some 120), some (118, true), .bin .eql 26 (tm 119) (kc 0)⟩,
 ⟨(some 121), none, .pick (tm 118) (tm 120) (.const (.bool false))⟩,
 ⟨(some 122), none, .mov (tm 121)⟩,
 ⟨(some 123), some (122, true), .mov (tm 14)⟩,
 ⟨(some 124), some (122, true), .bin .eql 26 (tm 123) (kc 0)⟩,
 ⟨(some 125), none, .pick (tm 122) (tm 124) (.const (.bool false))⟩,
 ⟨(some 126), none, .mov (tm 125)⟩,
 ⟨(some 127), some (126, true), .mov (tm 17)⟩,
 ⟨(some 128), some (126, true), .bin .eql 26 (tm 127) (kc 0)⟩,
 ⟨(some 129), none, .pick (tm 126) (tm 128) (.const (.bool false))⟩,
 ⟨(some 130), none, .mov (tm 129)⟩,
 ⟨(some 131), some (130, true), .mov (tm 19)⟩,
 ⟨(some 132), some (130, true), .bin .eql 26 (tm 131) (kc 0)⟩,
 ⟨(some 133), none, .pick (tm 130) (tm 132) (.const (.bool false))⟩,
 ⟨(some 134), none, .mov (tm 133)⟩,
 ⟨(some 135), some (134, true), .mov (tm 21)⟩,
 ⟨(some 136), some (134, true), .bin .eql 26 (tm 135) (kc 0)⟩,
 ⟨(some 137), none, .pick (tm 134) (tm 136) (.const (.bool false))⟩,
 ⟨(some 138), none, .mov (tm 137)⟩,
 ⟨(some 139), some (138, true), .mov (tm 24)⟩,
 ⟨(some 140), some (138, true), .bin .eql 26 (tm 139) (kc 0)⟩,
 ⟨(some 141), none, .pick (tm 138) (tm 140) (.const (.bool false))⟩,
 ⟨(some 142), none, .mov (tm 141)⟩,
 ⟨(some 143), some (142, true), .mov (tm 26)⟩,
 ⟨(some 144), some (142, true), .bin .eql 26 (tm 143) (kc 0)⟩,
 ⟨(some 145), none, .pick (tm 142) (tm 144) (.const (.bool false))⟩,
 ⟨(some 146), none, .mov (tm 145)⟩,
 ⟨(some 147), some (146, true), .mov (tm 28)⟩,
 ⟨(some 148), some (146, true), .bin .eql 26 (tm 147) (kc 6)⟩,
 ⟨(some 149), none, .pick (tm 146) (tm 148) (.const (.bool false))⟩,
 ⟨(some 150), none, .mov (tm 149)⟩,
 ⟨(some 151), some (150, true), .mov (tm 30)⟩,
 ⟨(some 152), some (150, true), .bin .eql 26 (tm 151) (kc 4)⟩,
 ⟨(some 153), none, .pick (tm 150) (tm 152) (.const (.bool false))⟩,
 ⟨(some 154), none, .mov (tm 153)⟩,
 ⟨(some 155), some (154, true), .mov (tm 4)⟩,
 ⟨(some 156), some (154, true), .mov (tm 2)⟩,
 ⟨(some 157), some (154, true), .call 20 [(tm 155), (tm 156)] 4⟩,
 ⟨(some 158), none, .pick (tm 154) (tm 157) (.const (.bool false))⟩,
 ⟨(some 159), none, .mov (tm 158)⟩,
 ⟨(some 160), some (159, true), .mov (tm 6)⟩,
 ⟨(some 161), some (159, true), .bslice 35 1 [(0, (kc 2))] 3 1 [(.int .i64 0)]⟩,
 ⟨(some 162), some (159, true), .call 24 [(tm 160), (tm 161)] 4⟩,
 ⟨(some 163), none, .pick (tm 159) (tm 162) (.const (.bool false))⟩,
 ⟨(some 164), none, .mov (tm 163)⟩,
 ⟨(some 165), some (164, true), .mov (tm 8)⟩,
 ⟨(some 166), some (164, true), .call 42 [(.const (.string ⟨#[97]⟩))] 29⟩,
 ⟨(some 167), some (164, true), .call 42 [(.const (.string ⟨#[98, 32, 99]⟩))] 29⟩,
 ⟨(some 168), some (164, true), .bslice 25 2 [(0, (tm 166)), (1, (tm 167))] 29 1 [(.slice none 0 0)]⟩,
 ⟨(some 169), some (164, true), .call 27 [(tm 165), (tm 168)] 4⟩,
 ⟨(some 170), none, .pick (tm 164) (tm 169) (.const (.bool false))⟩,
 ⟨(some 171), none, .mov (tm 170)⟩,
 ⟨(some 172), some (171, true), .mov (tm 9)⟩,
 ⟨(some 173), some (171, true), .bin .eql 3 (tm 172) (kc 2)⟩,
 ⟨(some 174), none, .pick (tm 171) (tm 173) (.const (.bool false))⟩,
 ⟨(some 175), none, .mov (tm 174)⟩,
 ⟨(some 176), some (175, true), .mov (tm 11)⟩,
 ⟨(some 177), some (175, true), .bin .eql 9 (tm 176) (.const (.string ⟨#[116, 111, 32, 116, 104, 101, 32, 106, 117, 100, 103, 101, 10, 105, 32, 97, 115, 107, 32, 109, 101, 114, 99, 121, 10]⟩))⟩,
 ⟨(some 178), none, .pick (tm 175) (tm 177) (.const (.bool false))⟩,
 ⟨(some 179), none, .mov (tm 178)⟩,
 ⟨(some 180), some (179, true), .mov (tm 13)⟩,
 ⟨(some 181), some (179, true), .mov (tm 2)⟩,
 ⟨(some 182), some (179, true), .call 20 [(tm 180), (tm 181)] 4⟩,
 ⟨(some 183), none, .pick (tm 179) (tm 182) (.const (.bool false))⟩,
 ⟨(some 184), none, .mov (tm 183)⟩,
 ⟨(some 185), some (184, true), .mov (tm 15)⟩,
 ⟨(some 186), some (184, true), .call 69 [] 47⟩,
 ⟨(some 187), some (184, true), .call 34 [(tm 185), (tm 186)] 4⟩,
 ⟨(some 188), none, .pick (tm 184) (tm 187) (.const (.bool false))⟩,
 ⟨(some 189), none, .mov (tm 188)⟩,
 ⟨(some 190), some (189, true), .mov (tm 16)⟩,
 ⟨(some 191), some (189, true), .bin .eql 3 (tm 190) (kc 2)⟩,
 ⟨(some 192), none, .pick (tm 189) (tm 191) (.const (.bool false))⟩,
 ⟨(some 193), none, .mov (tm 192)⟩,
 ⟨(some 194), some (193, true), .mov (tm 18)⟩,
 ⟨(some 195), some (193, true), .mov (tm 3)⟩,
 ⟨(some 196), some (193, true), .call 20 [(tm 194), (tm 195)] 4⟩,
 ⟨(some 197), none, .pick (tm 193) (tm 196) (.const (.bool false))⟩,
 ⟨(some 198), none, .mov (tm 197)⟩,
 ⟨(some 199), some (198, true), .mov (tm 20)⟩,
 ⟨(some 200), some (198, true), .bin .eql 3 (tm 199) (kc 2)⟩,
 ⟨(some 201), none, .pick (tm 198) (tm 200) (.const (.bool false))⟩,
 ⟨(some 202), none, .mov (tm 201)⟩,
 ⟨(some 203), some (202, true), .mov (tm 22)⟩,
 ⟨(some 204), some (202, true), .bin .eql 3 (tm 203) (kc 0)⟩,
 ⟨(some 205), none, .pick (tm 202) (tm 204) (.const (.bool false))⟩,
 ⟨(some 206), none, .mov (tm 205)⟩,
 ⟨(some 207), some (206, true), .mov (tm 23)⟩,
 ⟨(some 208), some (206, true), .bin .eql 3 (tm 207) (kc 0)⟩,
 ⟨(some 209), none, .pick (tm 206) (tm 208) (.const (.bool false))⟩,
 ⟨(some 0), none, .mov (tm 209)⟩])
 .ret))))))))))))))))
theorem fn21 : FnOK Try.prog 21 210 [.tmp 0] L21 := ⟨Try.f21, Try.func21, by kernel_rfl, Try.ntmps21, by rw [Try.results21], by kernel_rfl⟩
def L22 : LCode :=
 (.seq
 (.ops [⟨(some 2), none, .box 24 (tm 0)⟩,
 ⟨(some 4), none, .mov (.const (.slice none 0 0))⟩,
 ⟨(some 5), none, .mov (kc 0)⟩])
 (.seq
 (.seq
 (.ops [⟨(some 11), none, .load 24 (tm 2) (some 2)⟩,
 ⟨(some 12), none, .call 16 [(tm 11)] 27⟩,
 ⟨(some 10), none, .mov (tm 12)⟩,
 ⟨(some 13), none, .extract (tm 10) 0⟩,
 ⟨(some 14), none, .extract (tm 10) 1⟩,
 ⟨(some 15), none, .extract (tm 10) 2⟩,
 ⟨(some 5), none, .mov (tm 15)⟩])
 (.seq
 (.ops [⟨(some 16), none, .mov (tm 5)⟩,
 ⟨(some 17), none, .bin .eql 26 (tm 16) (kc 0)⟩])
 (.ite (tm 17)
 (.ops [⟨(some 18), none, .mov (tm 1)⟩,
 ⟨(some 19), none, .call 70 [(tm 18)] 26⟩,
 ⟨(some 5), none, .mov (tm 19)⟩])
 .skip)))
 (.seq
 (.seq
 (.ops [⟨(some 20), none, .mov (tm 5)⟩,
 ⟨(some 21), none, .bin .neq 26 (tm 20) (kc 0)⟩])
 (.ite (tm 21)
 (.seq
 (.ops [⟨(some 22), none, .mov (tm 5)⟩,
 ⟨(some 4), none, .mov (.const (.slice none 0 0))⟩,
 ⟨(some 5), none, .mov (tm 22)⟩])
 .ret)
 .skip))
 (.seq
 (.seq
 (.ops [⟨(some 23), none, .faddr 24 (tm 2) 1 1⟩,
 ⟨(some 24), none, .load 22 (tm 23) none⟩,
 ⟨(some 25), none, .len false 22 3 (tm 24)⟩,
 ⟨(some 26), none, .mov (kc 0)⟩])
 (.block 0
 (.loop
 (.seq
 (.ops [⟨(some 27), none, .bin .lss 3 (tm 26) (tm 25)⟩])
 (.seq
 (.ite (tm 27)
 .skip
 (.exit 0))
 (.seq
 (.block 1
 (.seq
 (.ops [⟨(some 28), none, .mov (tm 26)⟩,
 ⟨(some 29), none, .iaddr 22 (tm 24) (tm 26) 2⟩,
 ⟨(some 30), none, .load 64 (tm 29) (some 2)⟩,
 ⟨(some 7), none, .alloc 64 [(.string ⟨#[]⟩), (.slice none 0 0)]⟩,
 ⟨(some 6), none, .mov (tm 28)⟩,
 ⟨none, none, .store 64 (tm 7) (tm 30) 2⟩])
 (.seq
 (.ops [⟨(some 32), none, .load 64 (tm 7) (some 2)⟩,
 ⟨(some 33), none, .call 71 [(tm 32)] 94⟩,
 ⟨(some 34), none, .mov (tm 1)⟩,
 ⟨(some 35), none, .call 72 [(tm 33), (tm 34)] 106⟩,
 ⟨(some 31), none, .mov (tm 35)⟩,
 ⟨(some 36), none, .extract (tm 31) 0⟩,
 ⟨(some 37), none, .extract (tm 31) 1⟩,
 ⟨(some 8), none, .alloc 105 [(.int .i64 0), (.int .i64 0), (.int .i64 0), (.int .i64 0), (.int .i64 0)]⟩,
 ⟨none, none, .store 105 (tm 8) (tm 36) 5⟩,
 ⟨(some 9), none, .mov (tm 37)⟩])
 (.seq
 (.ops [⟨(some 38), none, .mov (tm 9)⟩,
 ⟨(some 39), none, .bin .gtr 3 (tm 38) (kc 0)⟩])
 (.ite (tm 39)
 (.ops [⟨(some 40), none, .mov (tm 4)⟩,
 ⟨(some 41), none, .mov (tm 6)⟩,
 ⟨(some 42), none, .bslice 35 1 [(0, (tm 41))] 3 1 [(.int .i64 0)]⟩,
 ⟨(some 43), none, .append 35 35 (tm 40) (tm 42) 3 1 8 [(.int .i64 0)]⟩,
 ⟨(some 4), none, .mov (tm 43)⟩])
 .skip)))))
 (.ops [⟨(some 44), none, .bin .add 3 (tm 26) (kc 1)⟩,
 ⟨(some 26), none, .mov (tm 44)⟩])))))))
 (.seq
 (.ops [⟨(some 45), none, .mov (tm 4)⟩,
 ⟨(some 4), none, .mov (tm 45)⟩,
 ⟨(some 5), none, .mov (kc 0)⟩])
 .ret)))))
theorem fn22 : FnOK Try.prog 22 46 [.tmp 4, .tmp 5] L22 := ⟨Try.f22, Try.func22, by kernel_rfl, Try.ntmps22, by rw [Try.results22], by kernel_rfl⟩
def L24 : LCode :=
 (.seq
 (.ops [⟨(some 4), none, .mov (.const (.bool false))⟩])
 (.seq
 (.ops [⟨(some 5), none, .mov (tm 0)⟩,
 ⟨(some 6), none, .len false 35 3 (tm 5)⟩,
 ⟨(some 7), none, .mov (tm 1)⟩,
 ⟨(some 8), none, .len false 35 3 (tm 7)⟩,
 ⟨(some 9), none, .bin .eql 3 (tm 6) (tm 8)⟩,
 ⟨(some 10), none, .mov (tm 9)⟩,
 ⟨(some 11), some (10, true), .mov (tm 0)⟩,
 ⟨(some 12), some (10, true), .mov (tm 1)⟩,
 ⟨(some 13), some (10, true), .call 47 [(tm 11), (tm 12)] 4⟩,
 ⟨(some 14), some (10, true), .un .not (tm 13)⟩,
 ⟨(some 15), none, .pick (tm 10) (tm 14) (.const (.bool false))⟩,
 ⟨(some 16), none, .mov (tm 15)⟩,
 ⟨(some 17), some (16, true), .mov (tm 1)⟩,
 ⟨(some 18), some (16, true), .mov (tm 0)⟩,
 ⟨(some 19), some (16, true), .call 47 [(tm 17), (tm 18)] 4⟩,
 ⟨(some 20), some (16, true), .un .not (tm 19)⟩,
 ⟨(some 21), none, .pick (tm 16) (tm 20) (.const (.bool false))⟩,
 ⟨(some 4), none, .mov (tm 21)⟩])
 .ret))
theorem fn24 : FnOK Try.prog 24 22 [.tmp 4] L24 := ⟨Try.f24, Try.func24, by kernel_rfl, Try.ntmps24, by rw [Try.results24], by kernel_rfl⟩
def L25 : LCode :=
 (.seq
 (.ops [⟨(some 3), none, .box 24 (tm 0)⟩,
 ⟨(some 6), none, .mov (.const (.slice none 0 0))⟩,
 ⟨(some 7), none, .mov (kc 0)⟩,
 ⟨(some 8), none, .mov (kc 0)⟩])
 (.scope
 (.seq
 (.ops [⟨(some 16), none, .load 24 (tm 3) (some 2)⟩,
 ⟨(some 17), none, .mov (tm 1)⟩,
 ⟨(some 18), none, .call 64 [(tm 16), (tm 17)] 95⟩,
 ⟨(some 15), none, .mov (tm 18)⟩,
 ⟨(some 19), none, .extract (tm 15) 0⟩,
 ⟨(some 20), none, .extract (tm 15) 1⟩,
 ⟨(some 9), none, .mov (tm 19)⟩,
 ⟨(some 8), none, .mov (tm 20)⟩])
 (.seq
 (.seq
 (.ops [⟨(some 21), none, .mov (tm 8)⟩,
 ⟨(some 22), none, .bin .eql 26 (tm 21) (kc 0)⟩])
 (.ite (tm 22)
 (.ops [⟨(some 23), none, .mov (tm 2)⟩,
 ⟨(some 24), none, .call 70 [(tm 23)] 26⟩,
 ⟨(some 8), none, .mov (tm 24)⟩])
 .skip))
 (.seq
 (.seq
 (.ops [⟨(some 25), none, .mov (tm 8)⟩,
 ⟨(some 26), none, .bin .neq 26 (tm 25) (kc 0)⟩])
 (.ite (tm 26)
 (.seq
 (.ops [⟨(some 27), none, .mov (tm 8)⟩,
 ⟨(some 6), none, .mov (.const (.slice none 0 0))⟩,
 ⟨(some 7), none, .mov (kc 0)⟩,
 ⟨(some 8), none, .mov (tm 27)⟩])
 .ret)
 .skip))
 (.seq
 (.ops [⟨(some 29), none, .mov (tm 9)⟩,
 ⟨(some 30), none, .mov (tm 2)⟩,
 ⟨(some 31), none, .call 72 [(tm 29), (tm 30)] 106⟩,
 ⟨(some 28), none, .mov (tm 31)⟩,
 ⟨(some 32), none, .extract (tm 28) 0⟩,
 ⟨(some 33), none, .extract (tm 28) 1⟩,
 ⟨(some 10), none, .alloc 105 [(.int .i64 0), (.int .i64 0), (.int .i64 0), (.int .i64 0), (.int .i64 0)]⟩,
 ⟨none, none, .store 105 (tm 10) (tm 32) 5⟩,
 ⟨(some 7), none, .mov (tm 33)⟩])
 (.seq
 (.seq
 (.ops [⟨(some 34), none, .mov (tm 7)⟩,
 ⟨(some 35), none, .bin .eql 3 (tm 34) (kc 0)⟩])
 (.ite (tm 35)
 (.seq
 (.ops [⟨(some 6), none, .mov (.const (.slice none 0 0))⟩,
 ⟨(some 7), none, .mov (kc 0)⟩,
 ⟨(some 8), none, .mov (kc 9)⟩])
 .ret)
 .skip))
 (.seq
 (.ops [⟨(some 11), none, .mov (kc 0)⟩])
 (.seq
 (.label 0)
 (.seq
 (.seq
 (.ops [⟨(some 36), none, .mov (tm 9)⟩,
 ⟨(some 37), none, .nilck (tm 36)⟩,
 ⟨(some 38), none, .faddr 99 (tm 37) 0 0⟩,
 ⟨(some 39), none, .faddr 64 (tm 38) 1 1⟩,
 ⟨(some 40), none, .load 62 (tm 39) none⟩,
 ⟨(some 41), none, .len false 62 3 (tm 40)⟩,
 ⟨(some 42), none, .mov (kc 0)⟩])
 (.block 0
 (.loop
 (.seq
 (.ops [⟨(some 43), none, .bin .lss 3 (tm 42) (tm 41)⟩])
 (.seq
 (.ite (tm 43)
 .skip
 (.exit 0))
 (.seq
 (.block 1
 (.seq
 (.ops [⟨(some 44), none, .iaddr 62 (tm 40) (tm 42) 3⟩,
 ⟨(some 45), none, .load 84 (tm 44) (some 3)⟩,
 ⟨(some 13), none, .alloc 84 [(.slice none 0 0), (.int .i64 0), (.int .i64 0)]⟩,
 ⟨none, none, .store 84 (tm 13) (tm 45) 3⟩])
 (.seq
 (.seq
 (.ops [⟨(some 46), none, .faddr 84 (tm 13) 0 0⟩,
 ⟨(some 47), none, .load 29 (tm 46) none⟩,
 ⟨(some 48), none, .len false 29 3 (tm 47)⟩,
 ⟨(some 49), none, .bin .gtr 3 (tm 48) (kc 0)⟩])
 (.ite (tm 49)
 (.seq
 (.ops [⟨(some 50), none, .mov (tm 11)⟩,
 ⟨(some 51), none, .faddr 84 (tm 13) 0 0⟩,
 ⟨(some 52), none, .load 29 (tm 51) none⟩,
 ⟨(some 53), none, .len false 29 3 (tm 52)⟩,
 ⟨(some 54), none, .bin .add 3 (tm 50) (tm 53)⟩,
 ⟨(some 11), none, .mov (tm 54)⟩])
 (.exit 1))
 .skip))
 (.seq
 (.ops [⟨(some 55), none, .mov (tm 6)⟩,
 ⟨(some 56), none, .len false 25 3 (tm 55)⟩,
 ⟨(some 57), none, .iaddrA 105 (tm 10) (tm 56) 5 1⟩,
 ⟨(some 58), none, .load 3 (tm 57) none⟩,
 ⟨(some 59), none, .mslice 29 (tm 58) (tm 58) 9 1 16 [(.string ⟨#[]⟩)]⟩,
 ⟨(some 14), none, .mov (tm 59)⟩])
 (.seq
 (.ops [⟨(some 60), none, .mov (tm 11)⟩,
 ⟨(some 61), none, .mov (tm 14)⟩,
 ⟨(some 62), none, .mov (tm 2)⟩,
 ⟨(some 63), none, .mov (tm 11)⟩,
 ⟨(some 64), none, .sliceE 29 (tm 62) (some (tm 63)) none none 1⟩,
 ⟨(some 65), none, .copy 29 29 3 (tm 61) (tm 64) 9 1⟩,
 ⟨(some 66), none, .bin .add 3 (tm 60) (tm 65)⟩,
 ⟨(some 11), none, .mov (tm 66)⟩])
 (.ops [⟨(some 67), none, .mov (tm 6)⟩,
 ⟨(some 68), none, .mov (tm 14)⟩,
 ⟨(some 69), none, .bslice 25 1 [(0, (tm 68))] 29 1 [(.slice none 0 0)]⟩,
 ⟨(some 70), none, .append 25 25 (tm 67) (tm 69) 29 1 24 [(.slice none 0 0)]⟩,
 ⟨(some 6), none, .mov (tm 70)⟩]))))))
 (.ops [⟨(some 71), none, .bin .add 3 (tm 42) (kc 1)⟩,
 ⟨(some 42), none, .mov (tm 71)⟩])))))))
 (.seq
 (.ops [⟨(some 72), none, .mov (tm 6)⟩,
 ⟨(some 73), none, .mov (tm 7)⟩,
 ⟨(some 6), none, .mov (tm 72)⟩,
 ⟨(some 7), none, .mov (tm 73)⟩,
 ⟨(some 8), none, .mov (kc 0)⟩])
 .ret)))))))))))
theorem fn25 : FnOK Try.prog 25 74 [.tmp 6, .tmp 7, .tmp 8] L25 := ⟨Try.f25, Try.func25, by kernel_rfl, Try.ntmps25, by rw [Try.results25], by kernel_rfl⟩
def L27 : LCode :=
 (.seq
 (.ops [⟨(some 4), none, .mov (.const (.bool false))⟩])
 (.seq
 (.seq
 (.ops [⟨(some 6), none, .mov (tm 0)⟩,
 ⟨(some 7), none, .len false 25 3 (tm 6)⟩,
 ⟨(some 8), none, .mov (tm 1)⟩,
 ⟨(some 9), none, .len false 25 3 (tm 8)⟩,
 ⟨(some 10), none, .bin .neq 3 (tm 7) (tm 9)⟩])
 (.ite (tm 10)
 (.seq
 (.ops [⟨(some 4), none, .mov (.const (.bool false))⟩])
 .ret)
 .skip))
 (.seq
 (.seq
 (.ops [⟨(some 5), none, .mov (kc 0)⟩])
 (.block 0
 (.loop
 (.seq
 (.seq
 (.ops [⟨(some 11), none, .mov (tm 5)⟩,
 ⟨(some 12), none, .mov (tm 0)⟩,
 ⟨(some 13), none, .len false 25 3 (tm 12)⟩,
 ⟨(some 14), none, .bin .lss 3 (tm 11) (tm 13)⟩])
 (.ite (tm 14)
 .skip
 (.exit 0)))
 (.seq
 (.block 1
 (.seq
 (.dops [(⟨(some 17), none, .mov (tm 0)⟩, []),
 (⟨(some 18), none, .mov (tm 5)⟩, []),
 (⟨(some 19), none, .iaddr 25 (tm 17) (tm 18) 1⟩, [0, 1]),
 (⟨(some 20), none, .load 29 (tm 19) none⟩, [2]),
 (⟨(some 21), none, .mov (tm 1)⟩, []),
 (⟨(some 22), none, .mov (tm 5)⟩, []),
 (⟨(some 23), none, .iaddr 25 (tm 21) (tm 22) 1⟩, [4, 5]),
 (⟨(some 24), none, .load 29 (tm 23) none⟩, [6]),
 (⟨(some 25), none, .call 20 [(tm 20), (tm 24)] 4⟩, [3, 7]),
 (⟨(some 26), none, .un .not (tm 25)⟩, [8])])
 (.ite (tm 26)
 (.seq
 (.ops [⟨(some 4), none, .mov (.const (.bool false))⟩])
 .ret)
 .skip)))
 (.ops [⟨(some 15), none, .mov (tm 5)⟩,
 ⟨(some 16), none, .bin .add 3 (tm 15) (kc 1)⟩,
 ⟨(some 5), none, .mov (tm 16)⟩]))))))
 (.seq
 (.ops [⟨(some 4), none, .mov (.const (.bool true))⟩])
 .ret))))
theorem fn27 : FnOK Try.prog 27 27 [.tmp 4] L27 := ⟨Try.f27, Try.func27, by kernel_rfl, Try.ntmps27, by rw [Try.results27], by kernel_rfl⟩
def L28 : LCode :=
 (.seq
 (.ops [⟨(some 2), none, .box 24 (tm 0)⟩,
 ⟨(some 4), none, .mov (.const (.string ⟨#[]⟩))⟩,
 ⟨(some 5), none, .mov (kc 0)⟩])
 (.seq
 (.ops [⟨(some 10), none, .load 24 (tm 2) (some 2)⟩,
 ⟨(some 11), none, .call 16 [(tm 10)] 27⟩,
 ⟨(some 9), none, .mov (tm 11)⟩,
 ⟨(some 12), none, .extract (tm 9) 0⟩,
 ⟨(some 13), none, .extract (tm 9) 1⟩,
 ⟨(some 14), none, .extract (tm 9) 2⟩,
 ⟨(some 6), none, .mov (tm 12)⟩,
 ⟨(some 7), none, .mov (tm 13)⟩,
 ⟨(some 8), none, .mov (tm 14)⟩])
 (.seq
 (.seq
 (.ops [⟨(some 15), none, .mov (tm 8)⟩,
 ⟨(some 16), none, .bin .eql 26 (tm 15) (kc 0)⟩])
 (.ite (tm 16)
 (.ops [⟨(some 17), none, .mov (tm 1)⟩,
 ⟨(some 18), none, .call 70 [(tm 17)] 26⟩,
 ⟨(some 8), none, .mov (tm 18)⟩])
 .skip))
 (.seq
 (.seq
 (.ops [⟨(some 19), none, .mov (tm 8)⟩,
 ⟨(some 20), none, .bin .neq 26 (tm 19) (kc 0)⟩])
 (.ite (tm 20)
 (.seq
 (.ops [⟨(some 21), none, .mov (tm 8)⟩,
 ⟨(some 4), none, .mov (.const (.string ⟨#[]⟩))⟩,
 ⟨(some 5), none, .mov (tm 21)⟩])
 .ret)
 .skip))
 (.seq
 (.ops [⟨(some 22), none, .faddr 24 (tm 2) 0 0⟩,
 ⟨(some 23), none, .load 3 (tm 22) none⟩,
 ⟨(some 24), none, .mov (tm 1)⟩,
 ⟨(some 25), none, .call 75 [(tm 23), (tm 24)] 9⟩,
 ⟨(some 4), none, .mov (tm 25)⟩,
 ⟨(some 5), none, .mov (kc 0)⟩])
 .ret)))))
theorem fn28 : FnOK Try.prog 28 26 [.tmp 4, .tmp 5] L28 := ⟨Try.f28, Try.func28, by kernel_rfl, Try.ntmps28, by rw [Try.results28], by kernel_rfl⟩
def L30 : LCode :=
 (.seq
 (.ops [⟨(some 2), none, .box 24 (tm 0)⟩,
 ⟨(some 4), none, .mov (.const (.slice none 0 0))⟩,
 ⟨(some 5), none, .mov (kc 0)⟩])
 (.seq
 (.ops [⟨(some 11), none, .load 24 (tm 2) (some 2)⟩,
 ⟨(some 12), none, .call 16 [(tm 11)] 27⟩,
 ⟨(some 10), none, .mov (tm 12)⟩,
 ⟨(some 13), none, .extract (tm 10) 0⟩,
 ⟨(some 14), none, .extract (tm 10) 1⟩,
 ⟨(some 15), none, .extract (tm 10) 2⟩,
 ⟨(some 6), none, .mov (tm 13)⟩,
 ⟨(some 7), none, .mov (tm 14)⟩,
 ⟨(some 8), none, .mov (tm 15)⟩])
 (.seq
 (.block 0
 (.seq
 (.ops [⟨(some 17), none, .mov (tm 8)⟩,
 ⟨(some 18), none, .bin .neq 26 (tm 17) (kc 0)⟩,
 ⟨(some 16), none, .mov (tm 18)⟩])
 (.ite (tm 16)
 (.seq
 (.ops [⟨(some 19), none, .mov (tm 8)⟩,
 ⟨(some 4), none, .mov (.const (.slice none 0 0))⟩,
 ⟨(some 5), none, .mov (tm 19)⟩])
 .ret)
 (.seq
 (.ops [⟨(some 21), none, .mov (tm 1)⟩,
 ⟨(some 22), none, .len true 9 3 (tm 21)⟩,
 ⟨(some 23), none, .bin .gtr 3 (tm 22) (kc 160)⟩,
 ⟨(some 20), none, .mov (tm 23)⟩])
 (.ite (tm 20)
 (.seq
 (.ops [⟨(some 4), none, .mov (.const (.slice none 0 0))⟩,
 ⟨(some 5), none, .mov (kc 3)⟩])
 .ret)
 .skip)))))
 (.seq
 (.ops [⟨(some 24), none, .mov (tm 1)⟩,
 ⟨(some 25), none, .call 77 [(tm 24), (.func 78)] 29⟩,
 ⟨(some 9), none, .mov (tm 25)⟩])
 (.seq
 (.seq
 (.ops [⟨(some 26), none, .mov (tm 9)⟩,
 ⟨(some 27), none, .call 70 [(tm 26)] 26⟩,
 ⟨(some 28), none, .bin .neq 26 (tm 27) (kc 0)⟩,
 ⟨(some 29), none, .mov (tm 28)⟩,
 ⟨(some 30), some (29, false), .faddr 24 (tm 2) 0 0⟩,
 ⟨(some 31), some (29, false), .load 3 (tm 30) none⟩,
 ⟨(some 32), some (29, false), .mov (tm 9)⟩,
 ⟨(some 33), some (29, false), .call 75 [(tm 31), (tm 32)] 9⟩,
 ⟨(some 34), some (29, false), .mov (tm 1)⟩,
 ⟨(some 35), some (29, false), .bin .neq 9 (tm 33) (tm 34)⟩,
 ⟨(some 36), none, .pick (tm 29) (.const (.bool true)) (tm 35)⟩])
 (.ite (tm 36)
 (.seq
 (.ops [⟨(some 4), none, .mov (.const (.slice none 0 0))⟩,
 ⟨(some 5), none, .mov (kc 6)⟩])
 .ret)
 .skip))
 (.seq
 (.ops [⟨(some 37), none, .mov (tm 9)⟩,
 ⟨(some 4), none, .mov (tm 37)⟩,
 ⟨(some 5), none, .mov (kc 0)⟩])
 .ret))))))
theorem fn30 : FnOK Try.prog 30 38 [.tmp 4, .tmp 5] L30 := ⟨Try.f30, Try.func30, by kernel_rfl, Try.ntmps30, by rw [Try.results30], by kernel_rfl⟩
def L32 : LCode :=
 (.seq
 (.ops [⟨(some 4), none, .mov (.const (.slice none 0 0))⟩,
 ⟨(some 5), none, .mov (kc 0)⟩,
 ⟨(some 6), none, .mov (kc 0)⟩])
 (.seq
 (.seq
 (.ops [⟨(some 14), none, .mov (tm 0)⟩,
 ⟨(some 15), none, .mov (tm 1)⟩,
 ⟨(some 16), none, .bslice 25 2 [(0, (tm 14)), (1, (tm 15))] 29 1 [(.slice none 0 0)]⟩,
 ⟨(some 17), none, .len false 25 3 (tm 16)⟩,
 ⟨(some 18), none, .mov (kc 0)⟩])
 (.block 0
 (.loop
 (.seq
 (.ops [⟨(some 19), none, .bin .lss 3 (tm 18) (tm 17)⟩])
 (.seq
 (.ite (tm 19)
 .skip
 (.exit 0))
 (.seq
 (.block 1
 (.seq
 (.ops [⟨(some 20), none, .iaddr 25 (tm 16) (tm 18) 1⟩,
 ⟨(some 21), none, .load 29 (tm 20) none⟩,
 ⟨(some 8), none, .mov (tm 21)⟩])
 (.seq
 (.ops [⟨(some 22), none, .mov (tm 8)⟩,
 ⟨(some 23), none, .call 70 [(tm 22)] 26⟩,
 ⟨(some 6), none, .mov (tm 23)⟩])
 (.seq
 (.ops [⟨(some 24), none, .mov (tm 6)⟩,
 ⟨(some 25), none, .bin .neq 26 (tm 24) (kc 0)⟩])
 (.ite (tm 25)
 (.seq
 (.ops [⟨(some 26), none, .mov (tm 6)⟩,
 ⟨(some 4), none, .mov (.const (.slice none 0 0))⟩,
 ⟨(some 5), none, .mov (kc 0)⟩,
 ⟨(some 6), none, .mov (tm 26)⟩])
 .ret)
 .skip)))))
 (.ops [⟨(some 27), none, .bin .add 3 (tm 18) (kc 1)⟩,
 ⟨(some 18), none, .mov (tm 27)⟩])))))))
 (.seq
 (.ops [⟨(some 28), none, .mov (tm 0)⟩,
 ⟨(some 29), none, .mov (tm 1)⟩,
 ⟨(some 30), none, .call 79 [(tm 28), (tm 29)] 115⟩,
 ⟨(some 9), none, .mov (tm 30)⟩])
 (.seq
 (.ops [⟨(some 10), none, .alloc 118 [(.int .i64 0), (.int .i64 0)]⟩])
 (.block 2
 (.loop
 (.block 3
 (.seq
 (.ops [⟨(some 32), none, .mov (tm 9)⟩,
 ⟨(some 33), none, .load 118 (tm 10) (some 2)⟩,
 ⟨(some 34), none, .call 80 [(tm 32), (tm 33)] 119⟩,
 ⟨(some 31), none, .mov (tm 34)⟩,
 ⟨(some 35), none, .extract (tm 31) 0⟩,
 ⟨(some 36), none, .extract (tm 31) 1⟩,
 ⟨(some 11), none, .mov (tm 35)⟩,
 ⟨(some 12), none, .mov (tm 36)⟩])
 (.seq
 (.seq
 (.ops [⟨(some 37), none, .mov (tm 12)⟩,
 ⟨(some 38), none, .bin .eql 3 (tm 37) (kc 4)⟩])
 (.ite (tm 38)
 (.seq
 (.ops [⟨(some 39), none, .mov (tm 4)⟩,
 ⟨(some 40), none, .mov (tm 9)⟩,
 ⟨(some 41), none, .build 118 [] [(.int .i64 0), (.int .i64 0)] []⟩,
 ⟨(some 42), none, .call 81 [(tm 40), (tm 41)] 3⟩,
 ⟨(some 4), none, .mov (tm 39)⟩,
 ⟨(some 5), none, .mov (tm 42)⟩,
 ⟨(some 6), none, .mov (kc 0)⟩])
 .ret)
 .skip))
 (.seq
 (.ops [⟨(some 43), none, .mov (tm 12)⟩,
 ⟨(some 44), none, .build 123 [(0, (tm 43))] [(.int .i64 0), (.string ⟨#[]⟩)] [(0, 1, (tm 43))]⟩,
 ⟨(some 13), none, .alloc 123 [(.int .i64 0), (.string ⟨#[]⟩)]⟩,
 ⟨none, none, .store 123 (tm 13) (tm 44) 2⟩])
 (.seq
 (.seq
 (.ops [⟨(some 45), none, .call 82 [] 127⟩,
 ⟨(some 46), none, .mov (tm 12)⟩,
 ⟨(some 47), none, .indexA 127 (tm 45) (tm 46) 4 3 (some 3)⟩,
 ⟨(some 48), none, .field 126 (tm 47) 1 1 none⟩])
 (.ite (tm 48)
 (.ops [⟨(some 49), none, .mov (tm 1)⟩,
 ⟨(some 50), none, .faddr 118 (tm 10) 1 1⟩,
 ⟨(some 51), none, .load 3 (tm 50) none⟩,
 ⟨(some 52), none, .iaddr 29 (tm 49) (tm 51) 1⟩,
 ⟨(some 53), none, .load 9 (tm 52) none⟩,
 ⟨(some 54), none, .faddr 123 (tm 13) 1 1⟩,
 ⟨none, none, .store 9 (tm 54) (tm 53) 1⟩])
 .skip))
 (.seq
 (.ops [⟨(some 55), none, .mov (tm 4)⟩,
 ⟨(some 56), none, .load 123 (tm 13) (some 2)⟩,
 ⟨(some 57), none, .bslice 47 1 [(0, (tm 56))] 123 2 [(.int .i64 0), (.string ⟨#[]⟩)]⟩,
 ⟨(some 58), none, .append 47 47 (tm 55) (tm 57) 123 2 24 [(.int .i64 0), (.string ⟨#[]⟩)]⟩,
 ⟨(some 4), none, .mov (tm 58)⟩])
 (.ops [⟨(some 60), none, .mov (tm 9)⟩,
 ⟨(some 61), none, .mov (tm 12)⟩,
 ⟨(some 62), none, .load 118 (tm 10) (some 2)⟩,
 ⟨(some 63), none, .call 83 [(tm 60), (tm 61), (tm 62)] 129⟩,
 ⟨(some 59), none, .mov (tm 63)⟩,
 ⟨(some 64), none, .extract (tm 59) 0⟩,
 ⟨(some 65), none, .extract (tm 59) 1⟩,
 ⟨none, none, .store 118 (tm 10) (tm 64) 2⟩])))))))))))))
theorem fn32 : FnOK Try.prog 32 66 [.tmp 4, .tmp 5, .tmp 6] L32 := ⟨Try.f32, Try.func32, by kernel_rfl, Try.ntmps32, by rw [Try.results32], by kernel_rfl⟩
def L34 : LCode :=
 (.seq
 (.ops [⟨(some 4), none, .mov (.const (.bool false))⟩])
 (.seq
 (.seq
 (.ops [⟨(some 6), none, .mov (tm 0)⟩,
 ⟨(some 7), none, .len false 47 3 (tm 6)⟩,
 ⟨(some 8), none, .mov (tm 1)⟩,
 ⟨(some 9), none, .len false 47 3 (tm 8)⟩,
 ⟨(some 10), none, .bin .neq 3 (tm 7) (tm 9)⟩])
 (.ite (tm 10)
 (.seq
 (.ops [⟨(some 4), none, .mov (.const (.bool false))⟩])
 .ret)
 .skip))
 (.seq
 (.seq
 (.ops [⟨(some 5), none, .mov (kc 0)⟩])
 (.block 0
 (.loop
 (.seq
 (.seq
 (.ops [⟨(some 11), none, .mov (tm 5)⟩,
 ⟨(some 12), none, .mov (tm 0)⟩,
 ⟨(some 13), none, .len false 47 3 (tm 12)⟩,
 ⟨(some 14), none, .bin .lss 3 (tm 11) (tm 13)⟩])
 (.ite (tm 14)
 .skip
 (.exit 0)))
 (.seq
 (.block 1
 (.seq
 (.dops [(⟨(some 17), none, .mov (tm 0)⟩, []),
 (⟨(some 18), none, .mov (tm 5)⟩, []),
 (⟨(some 19), none, .iaddr 47 (tm 17) (tm 18) 2⟩, [0, 1]),
 (⟨(some 20), none, .load 123 (tm 19) (some 2)⟩, [2]),
 (⟨(some 21), none, .mov (tm 1)⟩, []),
 (⟨(some 22), none, .mov (tm 5)⟩, []),
 (⟨(some 23), none, .iaddr 47 (tm 21) (tm 22) 2⟩, [4, 5]),
 (⟨(some 24), none, .load 123 (tm 23) (some 2)⟩, [6]),
 (⟨(some 25), none, .eqT true 123 (tm 20) (tm 24)⟩, [3, 7])])
 (.ite (tm 25)
 (.seq
 (.ops [⟨(some 4), none, .mov (.const (.bool false))⟩])
 .ret)
 .skip)))
 (.ops [⟨(some 15), none, .mov (tm 5)⟩,
 ⟨(some 16), none, .bin .add 3 (tm 15) (kc 1)⟩,
 ⟨(some 5), none, .mov (tm 16)⟩]))))))
 (.seq
 (.ops [⟨(some 4), none, .mov (.const (.bool true))⟩])
 .ret))))
theorem fn34 : FnOK Try.prog 34 26 [.tmp 4] L34 := ⟨Try.f34, Try.func34, by kernel_rfl, Try.ntmps34, by rw [Try.results34], by kernel_rfl⟩
def L35 : LCode :=
 (.seq
 (.ops [⟨(some 4), none, .mov (.const (.slice none 0 0))⟩,
 ⟨(some 5), none, .mov (kc 0)⟩])
 (.seq
 (.ops [⟨(some 11), none, .mov (tm 0)⟩,
 ⟨(some 12), none, .call 70 [(tm 11)] 26⟩,
 ⟨(some 5), none, .mov (tm 12)⟩])
 (.seq
 (.block 0
 (.seq
 (.ops [⟨(some 14), none, .mov (tm 5)⟩,
 ⟨(some 15), none, .bin .neq 26 (tm 14) (kc 0)⟩,
 ⟨(some 13), none, .mov (tm 15)⟩])
 (.ite (tm 13)
 (.seq
 (.ops [⟨(some 16), none, .mov (tm 5)⟩,
 ⟨(some 4), none, .mov (.const (.slice none 0 0))⟩,
 ⟨(some 5), none, .mov (tm 16)⟩])
 .ret)
 (.seq
 (.ops [⟨(some 18), none, .mov (tm 1)⟩,
 ⟨(some 19), none, .len false 47 3 (tm 18)⟩,
 ⟨(some 20), none, .bin .gtr 3 (tm 19) (kc 30)⟩,
 ⟨(some 17), none, .mov (tm 20)⟩])
 (.ite (tm 17)
 (.seq
 (.ops [⟨(some 4), none, .mov (.const (.slice none 0 0))⟩,
 ⟨(some 5), none, .mov (kc 3)⟩])
 .ret)
 .skip)))))
 (.seq
 (.ops [⟨(some 6), none, .mov (kc 0)⟩])
 (.seq
 (.seq
 (.ops [⟨(some 21), none, .mov (tm 1)⟩,
 ⟨(some 22), none, .len false 47 3 (tm 21)⟩,
 ⟨(some 23), none, .mov (kc 0)⟩])
 (.block 1
 (.loop
 (.seq
 (.ops [⟨(some 24), none, .bin .lss 3 (tm 23) (tm 22)⟩])
 (.seq
 (.ite (tm 24)
 .skip
 (.exit 1))
 (.seq
 (.block 2
 (.seq
 (.ops [⟨(some 25), none, .iaddr 47 (tm 21) (tm 23) 2⟩,
 ⟨(some 26), none, .load 123 (tm 25) (some 2)⟩,
 ⟨(some 8), none, .alloc 123 [(.int .i64 0), (.string ⟨#[]⟩)]⟩,
 ⟨none, none, .store 123 (tm 8) (tm 26) 2⟩])
 (.seq
 (.seq
 (.ops [⟨(some 27), none, .faddr 123 (tm 8) 0 0⟩,
 ⟨(some 28), none, .load 3 (tm 27) none⟩,
 ⟨(some 29), none, .bslice 35 1 [(0, (tm 28))] 3 1 [(.int .i64 0)]⟩,
 ⟨(some 30), none, .call 57 [(kc 0), (kc 3), (tm 29)] 4⟩])
 (.ite (tm 30)
 (.seq
 (.ops [⟨(some 4), none, .mov (.const (.slice none 0 0))⟩,
 ⟨(some 5), none, .mov (kc 7)⟩])
 .ret)
 .skip))
 (.seq
 (.dops [(⟨(some 31), none, .call 82 [] 127⟩, []),
 (⟨(some 32), none, .faddr 123 (tm 8) 0 0⟩, []),
 (⟨(some 33), none, .load 3 (tm 32) none⟩, [1]),
 (⟨(some 34), none, .indexA 127 (tm 31) (tm 33) 4 3 (some 3)⟩, [0, 2]),
 (⟨(some 9), none, .alloc 126 [(.bool false), (.bool false), .nilFunc]⟩, []),
 (⟨none, none, .store 126 (tm 9) (tm 34) 3⟩, [4, 3, 0, 0, 1, 2, 3, 4]),
 (⟨(some 10), none, .mov (.const (.string ⟨#[]⟩))⟩, [5, 0, 1, 2, 3, 4, 5])])
 (.seq
 (.seq
 (.ops [⟨(some 35), none, .faddr 126 (tm 9) 0 0⟩,
 ⟨(some 36), none, .load 4 (tm 35) none⟩,
 ⟨(some 37), none, .mov (tm 36)⟩,
 ⟨(some 38), some (37, true), .mov (tm 6)⟩,
 ⟨(some 39), some (37, true), .mov (tm 0)⟩,
 ⟨(some 40), some (37, true), .len false 29 3 (tm 39)⟩,
 ⟨(some 41), some (37, true), .bin .lss 3 (tm 38) (tm 40)⟩,
 ⟨(some 42), none, .pick (tm 37) (tm 41) (.const (.bool false))⟩])
 (.ite (tm 42)
 (.ops [⟨(some 43), none, .mov (tm 0)⟩,
 ⟨(some 44), none, .mov (tm 6)⟩,
 ⟨(some 45), none, .iaddr 29 (tm 43) (tm 44) 1⟩,
 ⟨(some 46), none, .load 9 (tm 45) none⟩,
 ⟨(some 10), none, .mov (tm 46)⟩])
 .skip))
 (.seq
 (.block 3
 (.seq
 (.ops [⟨(some 48), none, .faddr 126 (tm 9) 1 1⟩,
 ⟨(some 49), none, .load 4 (tm 48) none⟩,
 ⟨(some 50), none, .mov (tm 49)⟩,
 ⟨(some 51), some (50, true), .faddr 123 (tm 8) 1 1⟩,
 ⟨(some 52), some (50, true), .load 9 (tm 51) none⟩,
 ⟨(some 53), some (50, true), .call 85 [(tm 52)] 4⟩,
 ⟨(some 54), some (50, true), .un .not (tm 53)⟩,
 ⟨(some 55), none, .pick (tm 50) (tm 54) (.const (.bool false))⟩,
 ⟨(some 56), none, .mov (tm 55)⟩,
 ⟨(some 57), some (56, false), .faddr 126 (tm 9) 1 1⟩,
 ⟨(some 58), some (56, false), .load 4 (tm 57) none⟩,
 ⟨(some 59), some (56, false), .un .not (tm 58)⟩,
 ⟨(some 60), some (56, false), .mov (tm 59)⟩,
 ⟨(some 61), some (60, true), .faddr 123 (tm 8) 1 1⟩,
 ⟨(some 62), some (60, true), .load 9 (tm 61) none⟩,
 ⟨(some 63), some (60, true), .bin .neq 9 (tm 62) (.const (.string ⟨#[]⟩))⟩,
 ⟨(some 64), some (56, false), .pick (tm 60) (tm 63) (.const (.bool false))⟩,
 ⟨(some 65), none, .pick (tm 56) (.const (.bool true)) (tm 64)⟩,
 ⟨(some 47), none, .mov (tm 65)⟩])
 (.ite (tm 47)
 (.seq
 (.ops [⟨(some 4), none, .mov (.const (.slice none 0 0))⟩,
 ⟨(some 5), none, .mov (kc 6)⟩])
 .ret)
 (.seq
 (.ops [⟨(some 67), none, .faddr 126 (tm 9) 0 0⟩,
 ⟨(some 68), none, .load 4 (tm 67) none⟩,
 ⟨(some 69), none, .mov (tm 68)⟩,
 ⟨(some 70), some (69, true), .mov (tm 6)⟩,
 ⟨(some 71), some (69, true), .mov (tm 0)⟩,
 ⟨(some 72), some (69, true), .len false 29 3 (tm 71)⟩,
 ⟨(some 73), some (69, true), .bin .eql 3 (tm 70) (tm 72)⟩,
 ⟨(some 74), none, .pick (tm 69) (tm 73) (.const (.bool false))⟩,
 ⟨(some 66), none, .mov (tm 74)⟩])
 (.ite (tm 66)
 (.seq
 (.ops [⟨(some 4), none, .mov (.const (.slice none 0 0))⟩,
 ⟨(some 5), none, .mov (kc 4)⟩])
 .ret)
 (.seq
 (.ops [⟨(some 76), none, .faddr 123 (tm 8) 0 0⟩,
 ⟨(some 77), none, .load 3 (tm 76) none⟩,
 ⟨(some 78), none, .bin .eql 3 (tm 77) (kc 1)⟩,
 ⟨(some 79), none, .mov (tm 78)⟩,
 ⟨(some 80), some (79, true), .faddr 123 (tm 8) 1 1⟩,
 ⟨(some 81), some (79, true), .load 9 (tm 80) none⟩,
 ⟨(some 82), some (79, true), .mov (tm 10)⟩,
 ⟨(some 83), some (79, true), .bin .eql 9 (tm 81) (tm 82)⟩,
 ⟨(some 84), none, .pick (tm 79) (tm 83) (.const (.bool false))⟩,
 ⟨(some 75), none, .mov (tm 84)⟩])
 (.ite (tm 75)
 (.seq
 (.ops [⟨(some 4), none, .mov (.const (.slice none 0 0))⟩,
 ⟨(some 5), none, .mov (kc 5)⟩])
 .ret)
 (.seq
 (.ops [⟨(some 86), none, .faddr 126 (tm 9) 0 0⟩,
 ⟨(some 87), none, .load 4 (tm 86) none⟩,
 ⟨(some 85), none, .mov (tm 87)⟩])
 (.ite (tm 85)
 (.ops [⟨(some 88), none, .mov (tm 6)⟩,
 ⟨(some 89), none, .bin .add 3 (tm 88) (kc 1)⟩,
 ⟨(some 6), none, .mov (tm 89)⟩])
 .skip)))))))))
 (.ops [⟨(some 90), none, .mov (tm 4)⟩,
 ⟨(some 91), none, .faddr 126 (tm 9) 2 2⟩,
 ⟨(some 92), none, .load 124 (tm 91) none⟩,
 ⟨(some 93), none, .mov (tm 10)⟩,
 ⟨(some 94), none, .faddr 123 (tm 8) 1 1⟩,
 ⟨(some 95), none, .load 9 (tm 94) none⟩,
 ⟨(some 96), none, .callv (tm 92) [(tm 93), (tm 95)] 29⟩,
 ⟨(some 97), none, .append 29 29 (tm 90) (tm 96) 9 1 16 [(.string ⟨#[]⟩)]⟩,
 ⟨(some 4), none, .mov (tm 97)⟩])))))))
 (.ops [⟨(some 98), none, .bin .add 3 (tm 23) (kc 1)⟩,
 ⟨(some 23), none, .mov (tm 98)⟩])))))))
 (.seq
 (.block 4
 (.seq
 (.ops [⟨(some 100), none, .mov (tm 6)⟩,
 ⟨(some 101), none, .mov (tm 0)⟩,
 ⟨(some 102), none, .len false 29 3 (tm 101)⟩,
 ⟨(some 103), none, .bin .lss 3 (tm 100) (tm 102)⟩,
 ⟨(some 99), none, .mov (tm 103)⟩])
 (.ite (tm 99)
 (.seq
 (.ops [⟨(some 4), none, .mov (.const (.slice none 0 0))⟩,
 ⟨(some 5), none, .mov (kc 2)⟩])
 .ret)
 (.seq
 (.ops [⟨(some 105), none, .mov (tm 4)⟩,
 ⟨(some 106), none, .len false 29 3 (tm 105)⟩,
 ⟨(some 107), none, .bin .gtr 3 (tm 106) (kc 15)⟩,
 ⟨(some 104), none, .mov (tm 107)⟩])
 (.ite (tm 104)
 (.seq
 (.ops [⟨(some 4), none, .mov (.const (.slice none 0 0))⟩,
 ⟨(some 5), none, .mov (kc 3)⟩])
 .ret)
 .skip)))))
 (.seq
 (.ops [⟨(some 108), none, .mov (tm 4)⟩,
 ⟨(some 4), none, .mov (tm 108)⟩,
 ⟨(some 5), none, .mov (kc 0)⟩])
 .ret)))))))
theorem fn35 : FnOK Try.prog 35 109 [.tmp 4, .tmp 5] L35 := ⟨Try.f35, Try.func35, by kernel_rfl, Try.ntmps35, by rw [Try.results35], by kernel_rfl⟩
def L37 : LCode :=
 (.seq
 (.ops [⟨(some 3), none, .box 24 (tm 0)⟩,
 ⟨(some 6), none, .mov (kc 0)⟩,
 ⟨(some 7), none, .mov (kc 0)⟩])
 (.seq
 (.ops [⟨(some 11), none, .load 24 (tm 3) (some 2)⟩,
 ⟨(some 12), none, .mov (tm 1)⟩,
 ⟨(some 13), none, .call 64 [(tm 11), (tm 12)] 95⟩,
 ⟨(some 10), none, .mov (tm 13)⟩,
 ⟨(some 14), none, .extract (tm 10) 0⟩,
 ⟨(some 15), none, .extract (tm 10) 1⟩,
 ⟨(some 8), none, .mov (tm 14)⟩,
 ⟨(some 9), none, .mov (tm 15)⟩])
 (.seq
 (.seq
 (.ops [⟨(some 16), none, .mov (tm 9)⟩,
 ⟨(some 17), none, .bin .eql 26 (tm 16) (kc 0)⟩])
 (.ite (tm 17)
 (.ops [⟨(some 18), none, .mov (tm 2)⟩,
 ⟨(some 19), none, .call 70 [(tm 18)] 26⟩,
 ⟨(some 9), none, .mov (tm 19)⟩])
 .skip))
 (.seq
 (.seq
 (.ops [⟨(some 20), none, .mov (tm 9)⟩,
 ⟨(some 21), none, .bin .neq 26 (tm 20) (kc 0)⟩])
 (.ite (tm 21)
 (.seq
 (.ops [⟨(some 22), none, .mov (tm 9)⟩,
 ⟨(some 6), none, .mov (kc 0)⟩,
 ⟨(some 7), none, .mov (tm 22)⟩])
 .ret)
 .skip))
 (.seq
 (.ops [⟨(some 23), none, .mov (tm 8)⟩,
 ⟨(some 24), none, .mov (tm 2)⟩,
 ⟨(some 25), none, .call 87 [(tm 23), (tm 24)] 3⟩,
 ⟨(some 6), none, .mov (tm 25)⟩,
 ⟨(some 7), none, .mov (kc 0)⟩])
 .ret)))))
theorem fn37 : FnOK Try.prog 37 26 [.tmp 6, .tmp 7] L37 := ⟨Try.f37, Try.func37, by kernel_rfl, Try.ntmps37, by rw [Try.results37], by kernel_rfl⟩
def L39 : LCode :=
 (.seq
 (.ops [⟨(some 2), none, .box 24 (tm 0)⟩,
 ⟨(some 3), none, .box 29 (tm 1)⟩,
 ⟨(some 4), none, .mov (kc 0)⟩,
 ⟨(some 5), none, .mov (kc 0)⟩,
 ⟨(some 6), none, .mov (kc 0)⟩])
 (.seq
 (.seq
 (.ops [⟨(some 10), none, .load 24 (tm 2) (some 2)⟩,
 ⟨(some 11), none, .call 16 [(tm 10)] 27⟩,
 ⟨(some 9), none, .mov (tm 11)⟩,
 ⟨(some 12), none, .extract (tm 9) 0⟩,
 ⟨(some 13), none, .extract (tm 9) 1⟩,
 ⟨(some 14), none, .extract (tm 9) 2⟩,
 ⟨(some 6), none, .mov (tm 14)⟩])
 (.seq
 (.ops [⟨(some 15), none, .mov (tm 6)⟩,
 ⟨(some 16), none, .bin .eql 26 (tm 15) (kc 0)⟩])
 (.ite (tm 16)
 (.ops [⟨(some 17), none, .load 29 (tm 3) none⟩,
 ⟨(some 18), none, .call 70 [(tm 17)] 26⟩,
 ⟨(some 6), none, .mov (tm 18)⟩])
 .skip)))
 (.seq
 (.block 0
 (.seq
 (.ops [⟨(some 20), none, .mov (tm 6)⟩,
 ⟨(some 21), none, .bin .neq 26 (tm 20) (kc 0)⟩,
 ⟨(some 19), none, .mov (tm 21)⟩])
 (.ite (tm 19)
 (.seq
 (.ops [⟨(some 22), none, .mov (tm 6)⟩,
 ⟨(some 4), none, .mov (kc 0)⟩,
 ⟨(some 5), none, .mov (kc 0)⟩,
 ⟨(some 6), none, .mov (tm 22)⟩])
 .ret)
 (.seq
 (.ops [⟨(some 24), none, .faddr 24 (tm 2) 1 1⟩,
 ⟨(some 25), none, .load 22 (tm 24) none⟩,
 ⟨(some 26), none, .len false 22 3 (tm 25)⟩,
 ⟨(some 27), none, .bin .eql 3 (tm 26) (kc 0)⟩,
 ⟨(some 23), none, .mov (tm 27)⟩])
 (.ite (tm 23)
 (.seq
 (.ops [⟨(some 4), none, .mov (kc 0)⟩,
 ⟨(some 5), none, .mov (kc 0)⟩,
 ⟨(some 6), none, .mov (kc 9)⟩])
 .ret)
 .skip)))))
 (.seq
 (.ops [⟨(some 28), none, .faddr 24 (tm 2) 1 1⟩,
 ⟨(some 29), none, .load 22 (tm 28) none⟩,
 ⟨(some 30), none, .len false 22 3 (tm 29)⟩,
 ⟨(some 31), none, .mslice 35 (tm 30) (tm 30) 3 1 8 [(.int .i64 0)]⟩,
 ⟨(some 7), none, .mov (tm 31)⟩])
 (.seq
 (.seq
 (.ops [⟨(some 32), none, .faddr 24 (tm 2) 1 1⟩,
 ⟨(some 33), none, .load 22 (tm 32) none⟩,
 ⟨(some 34), none, .len false 22 3 (tm 33)⟩,
 ⟨(some 35), none, .mov (kc 0)⟩])
 (.block 1
 (.loop
 (.seq
 (.ops [⟨(some 36), none, .bin .lss 3 (tm 35) (tm 34)⟩])
 (.seq
 (.ite (tm 36)
 .skip
 (.exit 1))
 (.seq
 (.block 2
 (.seq
 (.ops [⟨(some 37), none, .mov (tm 35)⟩,
 ⟨(some 8), none, .mov (tm 37)⟩])
 (.ops [⟨(some 38), none, .mov (tm 7)⟩,
 ⟨(some 39), none, .mov (tm 8)⟩,
 ⟨(some 40), none, .mov (tm 8)⟩,
 ⟨(some 41), none, .iaddr 35 (tm 38) (tm 39) 1⟩,
 ⟨none, none, .store 3 (tm 41) (tm 40) 1⟩])))
 (.ops [⟨(some 42), none, .bin .add 3 (tm 35) (kc 1)⟩,
 ⟨(some 35), none, .mov (tm 42)⟩])))))))
 (.seq
 (.ops [⟨(some 44), none, .mov (tm 7)⟩,
 ⟨(some 45), none, .mkfn (.func 90) [] [(tm 2), (tm 3)]⟩,
 ⟨(some 46), none, .call 89 [(tm 44), (tm 45)] 119⟩,
 ⟨(some 43), none, .mov (tm 46)⟩,
 ⟨(some 47), none, .extract (tm 43) 0⟩,
 ⟨(some 48), none, .extract (tm 43) 1⟩,
 ⟨(some 4), none, .mov (tm 47)⟩,
 ⟨(some 5), none, .mov (tm 48)⟩])
 (.seq
 (.ops [⟨(some 49), none, .mov (tm 4)⟩,
 ⟨(some 50), none, .mov (tm 5)⟩,
 ⟨(some 4), none, .mov (tm 49)⟩,
 ⟨(some 5), none, .mov (tm 50)⟩,
 ⟨(some 6), none, .mov (kc 0)⟩])
 .ret)))))))
theorem fn39 : FnOK Try.prog 39 51 [.tmp 4, .tmp 5, .tmp 6] L39 := ⟨Try.f39, Try.func39, by kernel_rfl, Try.ntmps39, by rw [Try.results39], by kernel_rfl⟩
def L41 : LCode :=
 (.seq
 (.ops [⟨(some 0), none, .alloc 24 [(.int .i64 0), (.slice none 0 0)]⟩])
 (.seq
 (.ops [⟨(some 1), none, .call 91 [(.const (.string ⟨#[116, 111, 32, 116, 104, 101]⟩))] 84⟩,
 ⟨(some 2), none, .call 92 [(kc 1), (kc 2)] 84⟩,
 ⟨(some 3), none, .call 91 [(.const (.string ⟨#[105, 32, 97, 115, 107]⟩))] 84⟩,
 ⟨(some 4), none, .call 92 [(kc 1), (kc 3)] 84⟩,
 ⟨(some 5), none, .bslice 62 4 [(0, (tm 1)), (1, (tm 2)), (2, (tm 3)), (3, (tm 4))] 84 3 [(.slice none 0 0), (.int .i64 0), (.int .i64 0)]⟩,
 ⟨(some 6), none, .build 64 [(0, (.const (.string ⟨#[112, 108, 101, 97]⟩))), (1, (tm 5))] [(.string ⟨#[]⟩), (.slice none 0 0)] [(0, 1, (.const (.string ⟨#[112, 108, 101, 97]⟩))), (1, 1, (tm 5))]⟩,
 ⟨(some 7), none, .call 92 [(kc 1), (kc 2)] 84⟩,
 ⟨(some 8), none, .call 91 [(.const (.string ⟨#[105, 32, 97, 115, 107]⟩))] 84⟩,
 ⟨(some 9), none, .call 92 [(kc 0), (kc 2)] 84⟩,
 ⟨(some 10), none, .bslice 62 3 [(0, (tm 7)), (1, (tm 8)), (2, (tm 9))] 84 3 [(.slice none 0 0), (.int .i64 0), (.int .i64 0)]⟩,
 ⟨(some 11), none, .build 64 [(0, (.const (.string ⟨#[110, 111, 116, 101]⟩))), (1, (tm 10))] [(.string ⟨#[]⟩), (.slice none 0 0)] [(0, 1, (.const (.string ⟨#[110, 111, 116, 101]⟩))), (1, 1, (tm 10))]⟩,
 ⟨(some 12), none, .call 92 [(kc 1), (kc 2)] 84⟩,
 ⟨(some 13), none, .call 92 [(kc 1), (kc 2)] 84⟩,
 ⟨(some 14), none, .bslice 62 2 [(0, (tm 12)), (1, (tm 13))] 84 3 [(.slice none 0 0), (.int .i64 0), (.int .i64 0)]⟩,
 ⟨(some 15), none, .build 64 [(0, (.const (.string ⟨#[108, 105, 115, 116]⟩))), (1, (tm 14))] [(.string ⟨#[]⟩), (.slice none 0 0)] [(0, 1, (.const (.string ⟨#[108, 105, 115, 116]⟩))), (1, 1, (tm 14))]⟩,
 ⟨(some 16), none, .bslice 22 3 [(0, (tm 6)), (1, (tm 11)), (2, (tm 15))] 64 2 [(.string ⟨#[]⟩), (.slice none 0 0)]⟩,
 ⟨(some 17), none, .build 24 [(0, (kc 12)), (1, (tm 16))] [(.int .i64 0), (.slice none 0 0)] [(0, 1, (kc 12)), (1, 1, (tm 16))]⟩,
 ⟨none, none, .store 24 (tm 0) (tm 17) 2⟩])
 .ret))
theorem fn41 : FnOK Try.prog 41 18 [.cell 0 24] L41 := ⟨Try.f41, Try.func41, by kernel_rfl, Try.ntmps41, by rw [Try.results41], by kernel_rfl⟩
def L42 : LCode :=
 (.seq
 (.ops [⟨(some 2), none, .mov (.const (.slice none 0 0))⟩])
 (.seq
 (.ops [⟨(some 3), none, .mov (tm 0)⟩,
 ⟨(some 4), none, .call 49 [(tm 3), (.const (.int .u8 32))] 29⟩,
 ⟨(some 2), none, .mov (tm 4)⟩])
 .ret))
theorem fn42 : FnOK Try.prog 42 5 [.tmp 2] L42 := ⟨Try.f42, Try.func42, by kernel_rfl, Try.ntmps42, by rw [Try.results42], by kernel_rfl⟩
def L47 : LCode :=
 (.seq
 (.ops [⟨(some 4), none, .mov (.const (.bool false))⟩])
 (.seq
 (.ops [⟨(some 5), none, .mov (kc 0)⟩])
 (.seq
 (.block 0
 (.loop
 (.seq
 (.seq
 (.dops [(⟨(some 6), none, .mov (tm 5)⟩, []),
 (⟨(some 7), none, .mov (tm 0)⟩, []),
 (⟨(some 8), none, .len false 35 3 (tm 7)⟩, [1]),
 (⟨(some 9), none, .bin .lss 3 (tm 6) (tm 8)⟩, [0, 2]),
 (⟨(some 10), none, .mov (tm 9)⟩, [3]),
 (⟨(some 11), some (10, true), .mov (tm 5)⟩, [4]),
 (⟨(some 12), some (10, true), .mov (tm 1)⟩, [4]),
 (⟨(some 13), some (10, true), .len false 35 3 (tm 12)⟩, [6, 4]),
 (⟨(some 14), some (10, true), .bin .lss 3 (tm 11) (tm 13)⟩, [5, 7, 4]),
 (⟨(some 15), none, .pick (tm 10) (tm 14) (.const (.bool false))⟩, [4, 8]),
 (⟨(some 16), none, .mov (tm 15)⟩, [9, 4]),
 (⟨(some 17), some (16, true), .mov (tm 0)⟩, [10]),
 (⟨(some 18), some (16, true), .mov (tm 5)⟩, [10]),
 (⟨(some 19), some (16, true), .iaddr 35 (tm 17) (tm 18) 1⟩, [11, 12, 10]),
 (⟨(some 20), some (16, true), .load 3 (tm 19) none⟩, [13, 10]),
 (⟨(some 21), some (16, true), .mov (tm 1)⟩, [10]),
 (⟨(some 22), some (16, true), .mov (tm 5)⟩, [10]),
 (⟨(some 23), some (16, true), .iaddr 35 (tm 21) (tm 22) 1⟩, [15, 16, 10]),
 (⟨(some 24), some (16, true), .load 3 (tm 23) none⟩, [17, 10]),
 (⟨(some 25), some (16, true), .bin .eql 3 (tm 20) (tm 24)⟩, [14, 18, 10]),
 (⟨(some 26), none, .pick (tm 16) (tm 25) (.const (.bool false))⟩, [10, 19])])
 (.ite (tm 26)
 .skip
 (.exit 0)))
 (.block 1
 (.ops [⟨(some 27), none, .mov (tm 5)⟩,
 ⟨(some 28), none, .bin .add 3 (tm 27) (kc 1)⟩,
 ⟨(some 5), none, .mov (tm 28)⟩])))))
 (.seq
 (.seq
 (.ops [⟨(some 29), none, .mov (tm 5)⟩,
 ⟨(some 30), none, .mov (tm 1)⟩,
 ⟨(some 31), none, .len false 35 3 (tm 30)⟩,
 ⟨(some 32), none, .bin .eql 3 (tm 29) (tm 31)⟩])
 (.ite (tm 32)
 (.seq
 (.ops [⟨(some 4), none, .mov (.const (.bool false))⟩])
 .ret)
 .skip))
 (.seq
 (.dops [(⟨(some 33), none, .mov (tm 5)⟩, []),
 (⟨(some 34), none, .mov (tm 0)⟩, []),
 (⟨(some 35), none, .len false 35 3 (tm 34)⟩, [1]),
 (⟨(some 36), none, .bin .eql 3 (tm 33) (tm 35)⟩, [0, 2]),
 (⟨(some 37), none, .mov (tm 36)⟩, [3]),
 (⟨(some 38), some (37, false), .mov (tm 0)⟩, [4]),
 (⟨(some 39), some (37, false), .mov (tm 5)⟩, [4]),
 (⟨(some 40), some (37, false), .iaddr 35 (tm 38) (tm 39) 1⟩, [5, 6, 4]),
 (⟨(some 41), some (37, false), .load 3 (tm 40) none⟩, [7, 4]),
 (⟨(some 42), some (37, false), .mov (tm 1)⟩, [4]),
 (⟨(some 43), some (37, false), .mov (tm 5)⟩, [4]),
 (⟨(some 44), some (37, false), .iaddr 35 (tm 42) (tm 43) 1⟩, [9, 10, 4]),
 (⟨(some 45), some (37, false), .load 3 (tm 44) none⟩, [11, 4]),
 (⟨(some 46), some (37, false), .bin .lss 3 (tm 41) (tm 45)⟩, [8, 12, 4]),
 (⟨(some 47), none, .pick (tm 37) (.const (.bool true)) (tm 46)⟩, [4, 13]),
 (⟨(some 4), none, .mov (tm 47)⟩, [14, 4, 0, 1, 2, 3, 4, 5, 6, 7, 8, 9, 10, 11, 12, 13, 14])])
 .ret)))))
theorem fn47 : FnOK Try.prog 47 48 [.tmp 4] L47 := ⟨Try.f47, Try.func47, by kernel_rfl, Try.ntmps47, by rw [Try.results47], by kernel_rfl⟩
def L49 : LCode :=
 (.seq
 (.ops [⟨(some 4), none, .mov (.const (.slice none 0 0))⟩])
 (.seq
 (.ops [⟨(some 5), none, .mov (.const (.slice none 0 0))⟩])
 (.seq
 (.ops [⟨(some 6), none, .mov (kc 0)⟩])
 (.seq
 (.seq
 (.ops [⟨(some 7), none, .mov (kc 0)⟩])
 (.block 0
 (.loop
 (.seq
 (.seq
 (.ops [⟨(some 8), none, .mov (tm 7)⟩,
 ⟨(some 9), none, .mov (tm 0)⟩,
 ⟨(some 10), none, .len true 9 3 (tm 9)⟩,
 ⟨(some 11), none, .bin .lss 3 (tm 8) (tm 10)⟩])
 (.ite (tm 11)
 .skip
 (.exit 0)))
 (.seq
 (.block 1
 (.seq
 (.ops [⟨(some 14), none, .mov (tm 0)⟩,
 ⟨(some 15), none, .mov (tm 7)⟩,
 ⟨(some 16), none, .indexS 9 (tm 14) (tm 15)⟩,
 ⟨(some 17), none, .mov (tm 1)⟩,
 ⟨(some 18), none, .bin .eql 5 (tm 16) (tm 17)⟩])
 (.ite (tm 18)
 (.seq
 (.ops [⟨(some 19), none, .mov (tm 5)⟩,
 ⟨(some 20), none, .mov (tm 0)⟩,
 ⟨(some 21), none, .mov (tm 6)⟩,
 ⟨(some 22), none, .mov (tm 7)⟩,
 ⟨(some 23), none, .sliceS 9 (tm 20) (some (tm 21)) (some (tm 22)) none⟩,
 ⟨(some 24), none, .bslice 29 1 [(0, (tm 23))] 9 1 [(.string ⟨#[]⟩)]⟩,
 ⟨(some 25), none, .append 29 29 (tm 19) (tm 24) 9 1 16 [(.string ⟨#[]⟩)]⟩,
 ⟨(some 5), none, .mov (tm 25)⟩])
 (.ops [⟨(some 26), none, .mov (tm 7)⟩,
 ⟨(some 27), none, .bin .add 3 (tm 26) (kc 1)⟩,
 ⟨(some 6), none, .mov (tm 27)⟩]))
 .skip)))
 (.ops [⟨(some 12), none, .mov (tm 7)⟩,
 ⟨(some 13), none, .bin .add 3 (tm 12) (kc 1)⟩,
 ⟨(some 7), none, .mov (tm 13)⟩]))))))
 (.seq
 (.ops [⟨(some 28), none, .mov (tm 5)⟩,
 ⟨(some 29), none, .mov (tm 0)⟩,
 ⟨(some 30), none, .mov (tm 6)⟩,
 ⟨(some 31), none, .sliceS 9 (tm 29) (some (tm 30)) none none⟩,
 ⟨(some 32), none, .bslice 29 1 [(0, (tm 31))] 9 1 [(.string ⟨#[]⟩)]⟩,
 ⟨(some 33), none, .append 29 29 (tm 28) (tm 32) 9 1 16 [(.string ⟨#[]⟩)]⟩,
 ⟨(some 4), none, .mov (tm 33)⟩])
 .ret)))))
theorem fn49 : FnOK Try.prog 49 34 [.tmp 4] L49 := ⟨Try.f49, Try.func49, by kernel_rfl, Try.ntmps49, by rw [Try.results49], by kernel_rfl⟩
def L56 : LCode :=
 (.seq
 (.ops [⟨(some 4), none, .alloc 82 [(.int .i64 0), (.int .i64 0)]⟩])
 (.seq
 (.ops [⟨(some 5), none, .mov (tm 0)⟩,
 ⟨(some 6), none, .mov (tm 1)⟩,
 ⟨(some 7), none, .build 82 [(0, (tm 5)), (1, (tm 6))] [(.int .i64 0), (.int .i64 0)] [(0, 1, (tm 5)), (1, 1, (tm 6))]⟩,
 ⟨none, none, .store 82 (tm 4) (tm 7) 2⟩])
 .ret))
theorem fn56 : FnOK Try.prog 56 8 [.cell 4 82] L56 := ⟨Try.f56, Try.func56, by kernel_rfl, Try.ntmps56, by rw [Try.results56], by kernel_rfl⟩
def L57 : LCode :=
 (.seq
 (.ops [⟨(some 3), none, .box 3 (tm 0)⟩,
 ⟨(some 4), none, .box 3 (tm 1)⟩,
 ⟨(some 6), none, .mov (.const (.bool false))⟩])
 (.seq
 (.ops [⟨(some 7), none, .mov (tm 2)⟩,
 ⟨(some 8), none, .mkfn (.func 97) [] [(tm 3), (tm 4)]⟩,
 ⟨(some 9), none, .call 96 [(tm 7), (tm 8)] 4⟩,
 ⟨(some 6), none, .mov (tm 9)⟩])
 .ret))
theorem fn57 : FnOK Try.prog 57 10 [.tmp 6] L57 := ⟨Try.f57, Try.func57, by kernel_rfl, Try.ntmps57, by rw [Try.results57], by kernel_rfl⟩
def L58 : LCode :=
 (.seq
 (.ops [⟨(some 2), none, .mov (.const (.bool false))⟩])
 (.seq
 (.seq
 (.ops [⟨(some 6), none, .mov (tm 0)⟩,
 ⟨(some 7), none, .range 9 (tm 6) true⟩])
 (.block 0
 (.loop
 (.seq
 (.ops [⟨(some 8), none, .next (tm 7) true 0⟩,
 ⟨(some 9), none, .extract (tm 8) 0⟩])
 (.seq
 (.ite (tm 9)
 .skip
 (.exit 0))
 (.block 1
 (.seq
 (.ops [⟨(some 10), none, .extract (tm 8) 1⟩,
 ⟨(some 11), none, .extract (tm 8) 2⟩,
 ⟨(some 3), none, .mov (tm 10)⟩,
 ⟨(some 4), none, .mov (tm 11)⟩])
 (.seq
 (.ops [⟨(some 12), none, .mov (tm 4)⟩,
 ⟨(some 13), none, .bin .geq 21 (tm 12) (.const (.int .i32 97))⟩,
 ⟨(some 14), none, .mov (tm 13)⟩,
 ⟨(some 15), some (14, true), .mov (tm 4)⟩,
 ⟨(some 16), some (14, true), .bin .leq 21 (tm 15) (.const (.int .i32 122))⟩,
 ⟨(some 17), none, .pick (tm 14) (tm 16) (.const (.bool false))⟩,
 ⟨(some 5), none, .mov (tm 17)⟩])
 (.seq
 (.ops [⟨(some 18), none, .mov (tm 5)⟩,
 ⟨(some 19), none, .un .not (tm 18)⟩,
 ⟨(some 20), none, .mov (tm 19)⟩,
 ⟨(some 21), some (20, true), .mov (tm 3)⟩,
 ⟨(some 22), some (20, true), .bin .eql 3 (tm 21) (kc 0)⟩,
 ⟨(some 23), some (20, true), .mov (tm 22)⟩,
 ⟨(some 24), some (23, false), .mov (tm 4)⟩,
 ⟨(some 25), some (23, false), .bin .neq 21 (tm 24) (.const (.int .i32 46))⟩,
 ⟨(some 26), some (23, false), .mov (tm 25)⟩,
 ⟨(some 27), some (26, true), .mov (tm 4)⟩,
 ⟨(some 28), some (26, true), .bin .lss 21 (tm 27) (.const (.int .i32 48))⟩,
 ⟨(some 29), some (26, true), .mov (tm 28)⟩,
 ⟨(some 30), some (29, false), .mov (tm 4)⟩,
 ⟨(some 31), some (29, false), .bin .gtr 21 (tm 30) (.const (.int .i32 57))⟩,
 ⟨(some 32), some (26, true), .pick (tm 29) (.const (.bool true)) (tm 31)⟩,
 ⟨(some 33), some (23, false), .pick (tm 26) (tm 32) (.const (.bool false))⟩,
 ⟨(some 34), some (20, true), .pick (tm 23) (.const (.bool true)) (tm 33)⟩,
 ⟨(some 35), none, .pick (tm 20) (tm 34) (.const (.bool false))⟩])
 (.ite (tm 35)
 (.seq
 (.ops [⟨(some 2), none, .mov (.const (.bool false))⟩])
 .ret)
 .skip))))))))))
 (.seq
 (.ops [⟨(some 36), none, .mov (tm 0)⟩,
 ⟨(some 37), none, .len true 9 3 (tm 36)⟩,
 ⟨(some 38), none, .bslice 35 1 [(0, (tm 37))] 3 1 [(.int .i64 0)]⟩,
 ⟨(some 39), none, .call 98 [(kc 1), (kc 16), (tm 38)] 4⟩,
 ⟨(some 40), none, .un .not (tm 39)⟩,
 ⟨(some 2), none, .mov (tm 40)⟩])
 .ret)))
theorem fn58 : FnOK Try.prog 58 41 [.tmp 2] L58 := ⟨Try.f58, Try.func58, by kernel_rfl, Try.ntmps58, by rw [Try.results58], by kernel_rfl⟩
def L59 : LCode :=
 (.seq
 (.ops [⟨(some 4), none, .mov (.const (.bool false))⟩])
 (.seq
 (.ops [⟨(some 5), none, .mov (tm 0)⟩,
 ⟨(some 6), none, .mov (tm 1)⟩,
 ⟨(some 7), none, .call 99 [(tm 5), (tm 6)] 3⟩,
 ⟨(some 8), none, .bin .geq 3 (tm 7) (kc 0)⟩,
 ⟨(some 4), none, .mov (tm 8)⟩])
 .ret))
theorem fn59 : FnOK Try.prog 59 9 [.tmp 4] L59 := ⟨Try.f59, Try.func59, by kernel_rfl, Try.ntmps59, by rw [Try.results59], by kernel_rfl⟩
def L60 : LCode :=
 (.seq
 (.ops [⟨(some 2), none, .box 64 (tm 0)⟩,
 ⟨(some 3), none, .mov (.const (.bool false))⟩])
 (.seq
 (.ops [⟨(some 4), none, .faddr 64 (tm 2) 0 0⟩,
 ⟨(some 5), none, .load 9 (tm 4) none⟩,
 ⟨(some 6), none, .faddr 64 (tm 1) 0 0⟩,
 ⟨(some 7), none, .load 9 (tm 6) none⟩,
 ⟨(some 8), none, .bin .eql 9 (tm 5) (tm 7)⟩,
 ⟨(some 3), none, .mov (tm 8)⟩])
 .ret))
theorem fn60 : FnOK Try.prog 60 9 [.tmp 3] L60 := ⟨Try.f60, Try.func60, by kernel_rfl, Try.ntmps60, by rw [Try.results60], by kernel_rfl⟩
def L61 : LCode :=
 (.seq
 (.ops [⟨(some 1), none, .box 84 (tm 0)⟩,
 ⟨(some 2), none, .mov (kc 0)⟩])
 (.seq
 (.ops [⟨(some 4), none, .faddr 84 (tm 1) 0 0⟩,
 ⟨(some 5), none, .load 29 (tm 4) none⟩,
 ⟨(some 6), none, .call 65 [(tm 5)] 26⟩,
 ⟨(some 3), none, .mov (tm 6)⟩])
 (.seq
 (.block 0
 (.seq
 (.ops [⟨(some 8), none, .faddr 84 (tm 1) 0 0⟩,
 ⟨(some 9), none, .load 29 (tm 8) none⟩,
 ⟨(some 10), none, .len false 29 3 (tm 9)⟩,
 ⟨(some 11), none, .bin .gtr 3 (tm 10) (kc 3)⟩,
 ⟨(some 7), none, .mov (tm 11)⟩])
 (.ite (tm 7)
 (.seq
 (.ops [⟨(some 2), none, .mov (kc 3)⟩])
 .ret)
 (.seq
 (.ops [⟨(some 13), none, .mov (tm 3)⟩,
 ⟨(some 14), none, .bin .neq 26 (tm 13) (kc 0)⟩,
 ⟨(some 12), none, .mov (tm 14)⟩])
 (.ite (tm 12)
 (.seq
 (.ops [⟨(some 15), none, .mov (tm 3)⟩,
 ⟨(some 2), none, .mov (tm 15)⟩])
 .ret)
 (.seq
 (.ops [⟨(some 17), none, .faddr 84 (tm 1) 0 0⟩,
 ⟨(some 18), none, .load 29 (tm 17) none⟩,
 ⟨(some 19), none, .len false 29 3 (tm 18)⟩,
 ⟨(some 20), none, .bin .gtr 3 (tm 19) (kc 0)⟩,
 ⟨(some 21), none, .mov (tm 20)⟩,
 ⟨(some 22), some (21, true), .faddr 84 (tm 1) 1 1⟩,
 ⟨(some 23), some (21, true), .load 82 (tm 22) (some 2)⟩,
 ⟨(some 24), some (21, true), .build 82 [] [(.int .i64 0), (.int .i64 0)] []⟩,
 ⟨(some 25), some (21, true), .eqT true 82 (tm 23) (tm 24)⟩,
 ⟨(some 26), none, .pick (tm 21) (tm 25) (.const (.bool false))⟩,
 ⟨(some 16), none, .mov (tm 26)⟩])
 (.ite (tm 16)
 (.seq
 (.ops [⟨(some 2), none, .mov (kc 2)⟩])
 .ret)
 (.seq
 (.ops [⟨(some 28), none, .faddr 84 (tm 1) 0 0⟩,
 ⟨(some 29), none, .load 29 (tm 28) none⟩,
 ⟨(some 30), none, .len false 29 3 (tm 29)⟩,
 ⟨(some 31), none, .bin .gtr 3 (tm 30) (kc 0)⟩,
 ⟨(some 27), none, .mov (tm 31)⟩])
 (.ite (tm 27)
 (.seq
 (.ops [⟨(some 2), none, .mov (kc 0)⟩])
 .ret)
 (.seq
 (.ops [⟨(some 33), none, .faddr 84 (tm 1) 1 1⟩,
 ⟨(some 34), none, .faddr 82 (tm 33) 0 0⟩,
 ⟨(some 35), none, .load 3 (tm 34) none⟩,
 ⟨(some 36), none, .faddr 84 (tm 1) 1 1⟩,
 ⟨(some 37), none, .faddr 82 (tm 36) 1 1⟩,
 ⟨(some 38), none, .load 3 (tm 37) none⟩,
 ⟨(some 39), none, .bslice 35 2 [(0, (tm 35)), (1, (tm 38))] 3 1 [(.int .i64 0)]⟩,
 ⟨(some 40), none, .call 57 [(kc 0), (kc 3), (tm 39)] 4⟩,
 ⟨(some 41), none, .mov (tm 40)⟩,
 ⟨(some 42), some (41, false), .faddr 84 (tm 1) 1 1⟩,
 ⟨(some 43), some (41, false), .faddr 82 (tm 42) 1 1⟩,
 ⟨(some 44), some (41, false), .load 3 (tm 43) none⟩,
 ⟨(some 45), some (41, false), .bin .eql 3 (tm 44) (kc 0)⟩,
 ⟨(some 46), none, .pick (tm 41) (.const (.bool true)) (tm 45)⟩,
 ⟨(some 32), none, .mov (tm 46)⟩])
 (.ite (tm 32)
 (.seq
 (.ops [⟨(some 2), none, .mov (kc 7)⟩])
 .ret)
 (.seq
 (.ops [⟨(some 48), none, .faddr 84 (tm 1) 1 1⟩,
 ⟨(some 49), none, .faddr 82 (tm 48) 0 0⟩,
 ⟨(some 50), none, .load 3 (tm 49) none⟩,
 ⟨(some 51), none, .faddr 84 (tm 1) 1 1⟩,
 ⟨(some 52), none, .faddr 82 (tm 51) 1 1⟩,
 ⟨(some 53), none, .load 3 (tm 52) none⟩,
 ⟨(some 54), none, .bin .gtr 3 (tm 50) (tm 53)⟩,
 ⟨(some 47), none, .mov (tm 54)⟩])
 (.ite (tm 47)
 (.seq
 (.ops [⟨(some 2), none, .mov (kc 2)⟩])
 .ret)
 .skip)))))))))))))
 (.seq
 (.ops [⟨(some 2), none, .mov (kc 0)⟩])
 .ret))))
theorem fn61 : FnOK Try.prog 61 55 [.tmp 2] L61 := ⟨Try.f61, Try.func61, by kernel_rfl, Try.ntmps61, by rw [Try.results61], by kernel_rfl⟩
def L64 : LCode :=
 (.seq
 (.ops [⟨(some 2), none, .box 24 (tm 0)⟩,
 ⟨(some 4), none, .mov (.const (.pointer none))⟩,
 ⟨(some 5), none, .mov (kc 0)⟩])
 (.seq
 (.seq
 (.ops [⟨(some 10), none, .load 24 (tm 2) (some 2)⟩,
 ⟨(some 11), none, .call 16 [(tm 10)] 27⟩,
 ⟨(some 9), none, .mov (tm 11)⟩,
 ⟨(some 12), none, .extract (tm 9) 0⟩,
 ⟨(some 13), none, .extract (tm 9) 1⟩,
 ⟨(some 14), none, .extract (tm 9) 2⟩,
 ⟨(some 6), none, .mov (tm 12)⟩,
 ⟨(some 7), none, .mov (tm 13)⟩,
 ⟨(some 8), none, .mov (tm 14)⟩])
 (.seq
 (.ops [⟨(some 15), none, .mov (tm 8)⟩,
 ⟨(some 16), none, .bin .neq 26 (tm 15) (kc 0)⟩])
 (.ite (tm 16)
 (.seq
 (.ops [⟨(some 17), none, .mov (tm 8)⟩,
 ⟨(some 4), none, .mov (.const (.pointer none))⟩,
 ⟨(some 5), none, .mov (tm 17)⟩])
 .ret)
 .skip)))
 (.seq
 (.seq
 (.ops [⟨(some 18), none, .faddr 24 (tm 2) 1 1⟩,
 ⟨(some 19), none, .load 22 (tm 18) none⟩,
 ⟨(some 20), none, .len false 22 3 (tm 19)⟩,
 ⟨(some 21), none, .bin .sub 3 (tm 20) (kc 1)⟩,
 ⟨(some 22), none, .mov (tm 1)⟩,
 ⟨(some 23), none, .bslice 35 1 [(0, (tm 22))] 3 1 [(.int .i64 0)]⟩,
 ⟨(some 24), none, .call 57 [(kc 0), (tm 21), (tm 23)] 4⟩])
 (.ite (tm 24)
 (.seq
 (.ops [⟨(some 4), none, .mov (.const (.pointer none))⟩,
 ⟨(some 5), none, .mov (kc 4)⟩])
 .ret)
 .skip))
 (.seq
 (.ops [⟨(some 25), none, .faddr 24 (tm 2) 1 1⟩,
 ⟨(some 26), none, .load 22 (tm 25) none⟩,
 ⟨(some 27), none, .mov (tm 1)⟩,
 ⟨(some 28), none, .iaddr 22 (tm 26) (tm 27) 2⟩,
 ⟨(some 29), none, .load 64 (tm 28) (some 2)⟩,
 ⟨(some 30), none, .call 71 [(tm 29)] 94⟩,
 ⟨(some 4), none, .mov (tm 30)⟩,
 ⟨(some 5), none, .mov (kc 0)⟩])
 .ret))))
theorem fn64 : FnOK Try.prog 64 31 [.tmp 4, .tmp 5] L64 := ⟨Try.f64, Try.func64, by kernel_rfl, Try.ntmps64, by rw [Try.results64], by kernel_rfl⟩
def L65 : LCode :=
 (.seq
 (.ops [⟨(some 2), none, .mov (kc 0)⟩])
 (.seq
 (.seq
 (.ops [⟨(some 3), none, .mov (tm 0)⟩,
 ⟨(some 4), none, .call 102 [(tm 3), (.func 103)] 4⟩])
 (.ite (tm 4)
 (.seq
 (.ops [⟨(some 2), none, .mov (kc 6)⟩])
 .ret)
 .skip))
 (.seq
 (.ops [⟨(some 2), none, .mov (kc 0)⟩])
 .ret)))
theorem fn65 : FnOK Try.prog 65 5 [.tmp 2] L65 := ⟨Try.f65, Try.func65, by kernel_rfl, Try.ntmps65, by rw [Try.results65], by kernel_rfl⟩
def L69 : LCode :=
 (.seq
 (.ops [⟨(some 0), none, .mov (.const (.slice none 0 0))⟩])
 (.seq
 (.ops [⟨(some 1), none, .build 123 [] [(.int .i64 0), (.string ⟨#[]⟩)] []⟩,
 ⟨(some 2), none, .build 123 [(0, (kc 2))] [(.int .i64 0), (.string ⟨#[]⟩)] [(0, 1, (kc 2))]⟩,
 ⟨(some 3), none, .build 123 [] [(.int .i64 0), (.string ⟨#[]⟩)] []⟩,
 ⟨(some 4), none, .build 123 [] [(.int .i64 0), (.string ⟨#[]⟩)] []⟩,
 ⟨(some 5), none, .build 123 [] [(.int .i64 0), (.string ⟨#[]⟩)] []⟩,
 ⟨(some 6), none, .build 123 [(0, (kc 3)), (1, (.const (.string ⟨#[102, 111, 114]⟩)))] [(.int .i64 0), (.string ⟨#[]⟩)] [(0, 1, (kc 3)), (1, 1, (.const (.string ⟨#[102, 111, 114]⟩)))]⟩,
 ⟨(some 7), none, .build 123 [] [(.int .i64 0), (.string ⟨#[]⟩)] []⟩,
 ⟨(some 8), none, .bslice 47 7 [(0, (tm 1)), (1, (tm 2)), (2, (tm 3)), (3, (tm 4)), (4, (tm 5)), (5, (tm 6)), (6, (tm 7))] 123 2 [(.int .i64 0), (.string ⟨#[]⟩)]⟩,
 ⟨(some 0), none, .mov (tm 8)⟩])
 .ret))
theorem fn69 : FnOK Try.prog 69 9 [.tmp 0] L69 := ⟨Try.f69, Try.func69, by kernel_rfl, Try.ntmps69, by rw [Try.results69], by kernel_rfl⟩
def L70 : LCode :=
 (.seq
 (.ops [⟨(some 2), none, .mov (kc 0)⟩])
 (.seq
 (.seq
 (.ops [⟨(some 3), none, .mov (tm 0)⟩,
 ⟨(some 4), none, .len false 29 3 (tm 3)⟩,
 ⟨(some 5), none, .bin .gtr 3 (tm 4) (kc 15)⟩])
 (.ite (tm 5)
 (.seq
 (.ops [⟨(some 2), none, .mov (kc 3)⟩])
 .ret)
 .skip))
 (.seq
 (.ops [⟨(some 6), none, .mov (tm 0)⟩,
 ⟨(some 7), none, .call 65 [(tm 6)] 26⟩,
 ⟨(some 2), none, .mov (tm 7)⟩])
 .ret)))
theorem fn70 : FnOK Try.prog 70 8 [.tmp 2] L70 := ⟨Try.f70, Try.func70, by kernel_rfl, Try.ntmps70, by rw [Try.results70], by kernel_rfl⟩
def L71 : LCode :=
 (.seq
 (.ops [⟨(some 1), none, .box 64 (tm 0)⟩,
 ⟨(some 2), none, .mov (.const (.pointer none))⟩])
 (.seq
 (.ops [⟨(some 6), none, .load 64 (tm 1) (some 2)⟩,
 ⟨(some 7), none, .build 99 [(0, (tm 6))] [(.string ⟨#[]⟩), (.slice none 0 0), (.slice none 0 0)] [(0, 2, (tm 6))]⟩,
 ⟨(some 8), none, .box 99 (tm 7)⟩,
 ⟨(some 3), none, .mov (tm 8)⟩])
 (.seq
 (.seq
 (.ops [⟨(some 9), none, .faddr 64 (tm 1) 1 1⟩,
 ⟨(some 10), none, .load 62 (tm 9) none⟩,
 ⟨(some 11), none, .len false 62 3 (tm 10)⟩,
 ⟨(some 12), none, .mov (kc 0)⟩])
 (.block 0
 (.loop
 (.seq
 (.ops [⟨(some 13), none, .bin .lss 3 (tm 12) (tm 11)⟩])
 (.seq
 (.ite (tm 13)
 .skip
 (.exit 0))
 (.seq
 (.block 1
 (.seq
 (.ops [⟨(some 14), none, .iaddr 62 (tm 10) (tm 12) 3⟩,
 ⟨(some 15), none, .load 84 (tm 14) (some 3)⟩,
 ⟨(some 5), none, .alloc 84 [(.slice none 0 0), (.int .i64 0), (.int .i64 0)]⟩,
 ⟨none, none, .store 84 (tm 5) (tm 15) 3⟩])
 (.seq
 (.ops [⟨(some 16), none, .faddr 84 (tm 5) 0 0⟩,
 ⟨(some 17), none, .load 29 (tm 16) none⟩,
 ⟨(some 18), none, .len false 29 3 (tm 17)⟩,
 ⟨(some 19), none, .bin .eql 3 (tm 18) (kc 0)⟩])
 (.ite (tm 19)
 (.dops [(⟨(some 20), none, .mov (tm 3)⟩, []),
 (⟨(some 21), none, .mov (tm 3)⟩, []),
 (⟨(some 22), none, .nilck (tm 21)⟩, [1]),
 (⟨(some 23), none, .faddr 99 (tm 22) 1 2⟩, [2]),
 (⟨(some 24), none, .load 97 (tm 23) none⟩, [3]),
 (⟨(some 25), none, .faddr 84 (tm 5) 1 1⟩, []),
 (⟨(some 26), none, .load 82 (tm 25) (some 2)⟩, [5]),
 (⟨(some 27), none, .bslice 97 1 [(0, (tm 26))] 82 2 [(.int .i64 0), (.int .i64 0)]⟩, [6]),
 (⟨(some 28), none, .append 97 97 (tm 24) (tm 27) 82 2 16 [(.int .i64 0), (.int .i64 0)]⟩, [4, 7]),
 (⟨(some 29), none, .nilck (tm 20)⟩, [0, 0, 1, 2, 3, 4, 5, 6, 7, 8]),
 (⟨(some 30), none, .faddr 99 (tm 29) 1 2⟩, [9, 0, 1, 2, 3, 4, 5, 6, 7, 8]),
 (⟨none, none, .store 97 (tm 30) (tm 28) 1⟩, [10, 8, 8, 0, 1, 2, 3, 4, 5, 6, 7, 8])])
 .skip))))
 (.ops [⟨(some 31), none, .bin .add 3 (tm 12) (kc 1)⟩,
 ⟨(some 12), none, .mov (tm 31)⟩])))))))
 (.seq
 (.ops [⟨(some 32), none, .mov (tm 3)⟩,
 ⟨(some 2), none, .mov (tm 32)⟩])
 .ret))))
theorem fn71 : FnOK Try.prog 71 33 [.tmp 2] L71 := ⟨Try.f71, Try.func71, by kernel_rfl, Try.ntmps71, by rw [Try.results71], by kernel_rfl⟩
def L72 : LCode :=
 (.seq
 (.ops [⟨(some 2), none, .box 94 (tm 0)⟩,
 ⟨(some 3), none, .box 29 (tm 1)⟩,
 ⟨(some 4), none, .alloc 105 [(.int .i64 0), (.int .i64 0), (.int .i64 0), (.int .i64 0), (.int .i64 0)]⟩,
 ⟨(some 5), none, .alloc 3 [(.int .i64 0)]⟩])
 (.seq
 (.ops [⟨(some 8), none, .build 105 [(0, (kc (-1)))] [(.int .i64 0), (.int .i64 0), (.int .i64 0), (.int .i64 0), (.int .i64 0)] [(0, 1, (kc (-1)))]⟩,
 ⟨(some 6), none, .alloc 105 [(.int .i64 0), (.int .i64 0), (.int .i64 0), (.int .i64 0), (.int .i64 0)]⟩,
 ⟨none, none, .store 105 (tm 6) (tm 8) 5⟩])
 (.seq
 (.seq
 (.ops [⟨(some 9), none, .load 94 (tm 2) none⟩,
 ⟨(some 10), none, .call 105 [(tm 9)] 149⟩])
 (.block 0
 (.rfun (tm 10) [11]
 (.ops [⟨(some 7), none, .alloc 105 [(.int .i64 0), (.int .i64 0), (.int .i64 0), (.int .i64 0), (.int .i64 0)]⟩,
 ⟨none, none, .store 105 (tm 7) (tm 11) 5⟩])
 (.block 1
 (.seq
 (.seq
 (.ops [⟨(some 12), none, .load 105 (tm 7) (some 5)⟩,
 ⟨(some 13), none, .load 105 (tm 6) (some 5)⟩,
 ⟨(some 14), none, .eqT false 105 (tm 12) (tm 13)⟩])
 (.ite (tm 14)
 (.exit 1)
 .skip))
 (.seq
 (.ops [⟨(some 15), none, .load 105 (tm 7) (some 5)⟩,
 ⟨none, none, .store 105 (tm 6) (tm 15) 5⟩])
 (.seq
 (.seq
 (.dops [(⟨(some 16), none, .load 94 (tm 2) none⟩, []),
 (⟨(some 17), none, .load 105 (tm 7) (some 5)⟩, []),
 (⟨(some 18), none, .call 107 [(tm 16), (tm 17)] 29⟩, [0, 1]),
 (⟨(some 19), none, .load 29 (tm 3) none⟩, []),
 (⟨(some 20), none, .call 106 [(tm 18), (tm 19), (.func 108)] 4⟩, [2, 3, 2]),
 (⟨(some 21), none, .un .not (tm 20)⟩, [4])])
 (.ite (tm 21)
 (.exit 1)
 .skip))
 (.seq
 (.ops [⟨(some 22), none, .load 3 (tm 5) none⟩,
 ⟨(some 23), none, .bin .add 3 (tm 22) (kc 1)⟩,
 ⟨none, none, .store 3 (tm 5) (tm 23) 1⟩])
 (.seq
 (.ops [⟨(some 24), none, .load 3 (tm 5) none⟩,
 ⟨(some 25), none, .bin .eql 3 (tm 24) (kc 1)⟩])
 (.ite (tm 25)
 (.ops [⟨(some 26), none, .load 105 (tm 7) (some 5)⟩,
 ⟨none, none, .store 105 (tm 4) (tm 26) 5⟩])
 .skip))))))))))
 (.seq
 (.dops [(⟨(some 27), none, .load 105 (tm 4) (some 5)⟩, []),
 (⟨(some 28), none, .load 3 (tm 5) none⟩, []),
 (⟨none, none, .store 105 (tm 4) (tm 27) 5⟩, [0, 0]),
 (⟨none, none, .store 3 (tm 5) (tm 28) 1⟩, [1, 2, 0, 1, 2])])
 .ret))))
theorem fn72 : FnOK Try.prog 72 29 [.cell 4 105, .cell 5 3] L72 := ⟨Try.f72, Try.func72, by kernel_rfl, Try.ntmps72, by rw [Try.results72], by kernel_rfl⟩
def L75 : LCode :=
 (.seq
 (.ops [⟨(some 4), none, .mov (.const (.string ⟨#[]⟩))⟩])
 (.seq
 (.ops [⟨(some 5), none, .alloc 160 [(.pointer none), (.slice none 0 0)]⟩])
 (.seq
 (.ops [⟨(some 6), none, .mov (kc 0)⟩])
 (.seq
 (.seq
 (.ops [⟨(some 9), none, .mov (tm 1)⟩,
 ⟨(some 10), none, .len false 29 3 (tm 9)⟩,
 ⟨(some 11), none, .mov (kc 0)⟩])
 (.block 0
 (.loop
 (.seq
 (.ops [⟨(some 12), none, .bin .lss 3 (tm 11) (tm 10)⟩])
 (.seq
 (.ite (tm 12)
 .skip
 (.exit 0))
 (.seq
 (.block 1
 (.seq
 (.ops [⟨(some 13), none, .mov (tm 11)⟩,
 ⟨(some 14), none, .iaddr 29 (tm 9) (tm 11) 1⟩,
 ⟨(some 15), none, .load 9 (tm 14) none⟩,
 ⟨(some 7), none, .mov (tm 13)⟩,
 ⟨(some 8), none, .mov (tm 15)⟩])
 (.seq
 (.block 2
 (.seq
 (.ops [⟨(some 21), none, .mov (tm 7)⟩,
 ⟨(some 22), none, .bin .gtr 3 (tm 21) (kc 0)⟩,
 ⟨(some 23), none, .mov (tm 22)⟩,
 ⟨(some 24), some (23, true), .mov (tm 8)⟩,
 ⟨(some 25), some (23, true), .len true 9 3 (tm 24)⟩,
 ⟨(some 26), some (23, true), .mov (tm 6)⟩,
 ⟨(some 27), some (23, true), .bin .lss 3 (tm 25) (tm 26)⟩,
 ⟨(some 28), none, .pick (tm 23) (tm 27) (.const (.bool false))⟩,
 ⟨(some 20), none, .mov (tm 28)⟩])
 (.ite (tm 20)
 (.seq
 (.ops [⟨(some 29), none, .call 113 [(tm 5), (.const (.int .u8 32))] 162⟩])
 (.ops [⟨(some 30), none, .mov (tm 6)⟩,
 ⟨(some 31), none, .mov (tm 8)⟩,
 ⟨(some 32), none, .len true 9 3 (tm 31)⟩,
 ⟨(some 33), none, .bin .add 3 (tm 32) (kc 1)⟩,
 ⟨(some 34), none, .bin .sub 3 (tm 30) (tm 33)⟩,
 ⟨(some 6), none, .mov (tm 34)⟩]))
 (.seq
 (.ops [⟨(some 36), none, .mov (tm 7)⟩,
 ⟨(some 37), none, .bin .gtr 3 (tm 36) (kc 0)⟩,
 ⟨(some 35), none, .mov (tm 37)⟩])
 (.ite (tm 35)
 (.seq
 (.ops [⟨(some 38), none, .call 113 [(tm 5), (.const (.int .u8 10))] 162⟩])
 (.ops [⟨(some 39), none, .mov (tm 0)⟩,
 ⟨(some 40), none, .mov (tm 8)⟩,
 ⟨(some 41), none, .len true 9 3 (tm 40)⟩,
 ⟨(some 42), none, .bin .sub 3 (tm 39) (tm 41)⟩,
 ⟨(some 6), none, .mov (tm 42)⟩]))
 (.ops [⟨(some 16), none, .mov (tm 0)⟩,
 ⟨(some 17), none, .mov (tm 8)⟩,
 ⟨(some 18), none, .len true 9 3 (tm 17)⟩,
 ⟨(some 19), none, .bin .sub 3 (tm 16) (tm 18)⟩,
 ⟨(some 6), none, .mov (tm 19)⟩]))))))
 (.ops [⟨(some 43), none, .mov (tm 8)⟩,
 ⟨(some 44), none, .call 114 [(tm 5), (tm 43)] 164⟩]))))
 (.ops [⟨(some 45), none, .bin .add 3 (tm 11) (kc 1)⟩,
 ⟨(some 11), none, .mov (tm 45)⟩])))))))
 (.seq
 (.seq
 (.ops [⟨(some 46), none, .mov (tm 1)⟩,
 ⟨(some 47), none, .len false 29 3 (tm 46)⟩,
 ⟨(some 48), none, .bin .gtr 3 (tm 47) (kc 0)⟩])
 (.ite (tm 48)
 (.ops [⟨(some 49), none, .call 113 [(tm 5), (.const (.int .u8 10))] 162⟩])
 .skip))
 (.seq
 (.ops [⟨(some 50), none, .call 115 [(tm 5)] 9⟩,
 ⟨(some 4), none, .mov (tm 50)⟩])
 .ret))))))
theorem fn75 : FnOK Try.prog 75 51 [.tmp 4] L75 := ⟨Try.f75, Try.func75, by kernel_rfl, Try.ntmps75, by rw [Try.results75], by kernel_rfl⟩
def L77 : LCode :=
 (.seq
 (.ops [⟨(some 4), none, .mov (.const (.slice none 0 0))⟩])
 (.seq
 (.ops [⟨(some 12), none, .mslice 167 (kc 0) (kc 32) 169 2 16 [(.int .i64 0), (.int .i64 0)]⟩,
 ⟨(some 5), none, .mov (tm 12)⟩])
 (.seq
 (.ops [⟨(some 6), none, .mov (kc (-1))⟩])
 (.seq
 (.seq
 (.ops [⟨(some 13), none, .mov (tm 0)⟩,
 ⟨(some 14), none, .range 9 (tm 13) true⟩])
 (.block 0
 (.loop
 (.seq
 (.ops [⟨(some 15), none, .next (tm 14) true 0⟩,
 ⟨(some 16), none, .extract (tm 15) 0⟩])
 (.seq
 (.ite (tm 16)
 .skip
 (.exit 0))
 (.block 1
 (.seq
 (.ops [⟨(some 17), none, .extract (tm 15) 1⟩,
 ⟨(some 18), none, .extract (tm 15) 2⟩,
 ⟨(some 7), none, .mov (tm 17)⟩,
 ⟨(some 8), none, .mov (tm 18)⟩])
 (.seq
 (.ops [⟨(some 19), none, .mov (tm 1)⟩,
 ⟨(some 20), none, .mov (tm 8)⟩,
 ⟨(some 21), none, .callv (tm 19) [(tm 20)] 4⟩])
 (.ite (tm 21)
 (.seq
 (.ops [⟨(some 22), none, .mov (tm 6)⟩,
 ⟨(some 23), none, .bin .geq 3 (tm 22) (kc 0)⟩])
 (.ite (tm 23)
 (.seq
 (.ops [⟨(some 24), none, .mov (tm 5)⟩,
 ⟨(some 25), none, .mov (tm 6)⟩,
 ⟨(some 26), none, .mov (tm 7)⟩,
 ⟨(some 27), none, .build 169 [(0, (tm 25)), (1, (tm 26))] [(.int .i64 0), (.int .i64 0)] [(0, 1, (tm 25)), (1, 1, (tm 26))]⟩,
 ⟨(some 28), none, .bslice 167 1 [(0, (tm 27))] 169 2 [(.int .i64 0), (.int .i64 0)]⟩,
 ⟨(some 29), none, .append 167 167 (tm 24) (tm 28) 169 2 16 [(.int .i64 0), (.int .i64 0)]⟩,
 ⟨(some 5), none, .mov (tm 29)⟩])
 (.ops [⟨(some 30), none, .mov (tm 6)⟩,
 ⟨(some 31), none, .un .xor (tm 30)⟩,
 ⟨(some 6), none, .mov (tm 31)⟩]))
 .skip))
 (.seq
 (.ops [⟨(some 32), none, .mov (tm 6)⟩,
 ⟨(some 33), none, .bin .lss 3 (tm 32) (kc 0)⟩])
 (.ite (tm 33)
 (.ops [⟨(some 34), none, .mov (tm 7)⟩,
 ⟨(some 6), none, .mov (tm 34)⟩])
 .skip)))))))))))
 (.seq
 (.seq
 (.ops [⟨(some 35), none, .mov (tm 6)⟩,
 ⟨(some 36), none, .bin .geq 3 (tm 35) (kc 0)⟩])
 (.ite (tm 36)
 (.ops [⟨(some 37), none, .mov (tm 5)⟩,
 ⟨(some 38), none, .mov (tm 6)⟩,
 ⟨(some 39), none, .mov (tm 0)⟩,
 ⟨(some 40), none, .len true 9 3 (tm 39)⟩,
 ⟨(some 41), none, .build 169 [(0, (tm 38)), (1, (tm 40))] [(.int .i64 0), (.int .i64 0)] [(0, 1, (tm 38)), (1, 1, (tm 40))]⟩,
 ⟨(some 42), none, .bslice 167 1 [(0, (tm 41))] 169 2 [(.int .i64 0), (.int .i64 0)]⟩,
 ⟨(some 43), none, .append 167 167 (tm 37) (tm 42) 169 2 16 [(.int .i64 0), (.int .i64 0)]⟩,
 ⟨(some 5), none, .mov (tm 43)⟩])
 .skip))
 (.seq
 (.ops [⟨(some 44), none, .mov (tm 5)⟩,
 ⟨(some 45), none, .len false 167 3 (tm 44)⟩,
 ⟨(some 46), none, .mslice 29 (tm 45) (tm 45) 9 1 16 [(.string ⟨#[]⟩)]⟩,
 ⟨(some 9), none, .mov (tm 46)⟩])
 (.seq
 (.seq
 (.ops [⟨(some 47), none, .mov (tm 5)⟩,
 ⟨(some 48), none, .len false 167 3 (tm 47)⟩,
 ⟨(some 49), none, .mov (kc 0)⟩])
 (.block 2
 (.loop
 (.seq
 (.ops [⟨(some 50), none, .bin .lss 3 (tm 49) (tm 48)⟩])
 (.seq
 (.ite (tm 50)
 .skip
 (.exit 2))
 (.seq
 (.block 3
 (.seq
 (.ops [⟨(some 51), none, .mov (tm 49)⟩,
 ⟨(some 52), none, .iaddr 167 (tm 47) (tm 49) 2⟩,
 ⟨(some 53), none, .load 169 (tm 52) (some 2)⟩,
 ⟨(some 11), none, .alloc 169 [(.int .i64 0), (.int .i64 0)]⟩,
 ⟨(some 10), none, .mov (tm 51)⟩,
 ⟨none, none, .store 169 (tm 11) (tm 53) 2⟩])
 (.ops [⟨(some 54), none, .mov (tm 9)⟩,
 ⟨(some 55), none, .mov (tm 10)⟩,
 ⟨(some 56), none, .mov (tm 0)⟩,
 ⟨(some 57), none, .faddr 169 (tm 11) 0 0⟩,
 ⟨(some 58), none, .load 3 (tm 57) none⟩,
 ⟨(some 59), none, .faddr 169 (tm 11) 1 1⟩,
 ⟨(some 60), none, .load 3 (tm 59) none⟩,
 ⟨(some 61), none, .sliceS 9 (tm 56) (some (tm 58)) (some (tm 60)) none⟩,
 ⟨(some 62), none, .iaddr 29 (tm 54) (tm 55) 1⟩,
 ⟨none, none, .store 9 (tm 62) (tm 61) 1⟩])))
 (.ops [⟨(some 63), none, .bin .add 3 (tm 49) (kc 1)⟩,
 ⟨(some 49), none, .mov (tm 63)⟩])))))))
 (.seq
 (.ops [⟨(some 64), none, .mov (tm 9)⟩,
 ⟨(some 4), none, .mov (tm 64)⟩])
 .ret))))))))
theorem fn77 : FnOK Try.prog 77 65 [.tmp 4] L77 := ⟨Try.f77, Try.func77, by kernel_rfl, Try.ntmps77, by rw [Try.results77], by kernel_rfl⟩
def L78 : LCode :=
 (.seq
 (.ops [⟨(some 2), none, .mov (.const (.bool false))⟩])
 (.seq
 (.ops [⟨(some 3), none, .mov (tm 0)⟩,
 ⟨(some 4), none, .bin .eql 21 (tm 3) (.const (.int .i32 32))⟩,
 ⟨(some 5), none, .mov (tm 4)⟩,
 ⟨(some 6), some (5, false), .mov (tm 0)⟩,
 ⟨(some 7), some (5, false), .bin .eql 21 (tm 6) (.const (.int .i32 10))⟩,
 ⟨(some 8), none, .pick (tm 5) (.const (.bool true)) (tm 7)⟩,
 ⟨(some 2), none, .mov (tm 8)⟩])
 .ret))
theorem fn78 : FnOK Try.prog 78 9 [.tmp 2] L78 := ⟨Try.f78, Try.func78, by kernel_rfl, Try.ntmps78, by rw [Try.results78], by kernel_rfl⟩
def L79 : LCode :=
 (.seq
 (.ops [⟨(some 4), none, .mov (.const (.pointer none))⟩])
 (.seq
 (.ops [⟨(some 5), none, .mov (tm 0)⟩,
 ⟨(some 6), none, .mov (tm 1)⟩,
 ⟨(some 7), none, .mmap 170⟩,
 ⟨(some 8), none, .build 172 [(0, (tm 5)), (1, (tm 6)), (2, (tm 7))] [(.slice none 0 0), (.slice none 0 0), (.map none)] [(0, 1, (tm 5)), (1, 1, (tm 6)), (2, 1, (tm 7))]⟩,
 ⟨(some 9), none, .box 172 (tm 8)⟩,
 ⟨(some 4), none, .mov (tm 9)⟩])
 .ret))
theorem fn79 : FnOK Try.prog 79 10 [.tmp 4] L79 := ⟨Try.f79, Try.func79, by kernel_rfl, Try.ntmps79, by rw [Try.results79], by kernel_rfl⟩
def L80 : LCode :=
 (.seq
 (.ops [⟨(some 2), none, .box 115 (tm 0)⟩,
 ⟨(some 3), none, .box 118 (tm 1)⟩,
 ⟨(some 4), none, .mov (kc 0)⟩,
 ⟨(some 5), none, .mov (kc 0)⟩])
 (.seq
 (.seq
 (.dops [(⟨(some 7), none, .load 118 (tm 3) (some 2)⟩, []),
 (⟨(some 8), none, .load 115 (tm 2) none⟩, []),
 (⟨(some 9), none, .nilck (tm 8)⟩, [1]),
 (⟨(some 10), none, .faddr 172 (tm 9) 0 0⟩, [2]),
 (⟨(some 11), none, .load 29 (tm 10) none⟩, [3]),
 (⟨(some 12), none, .len false 29 3 (tm 11)⟩, [4]),
 (⟨(some 13), none, .load 115 (tm 2) none⟩, []),
 (⟨(some 14), none, .nilck (tm 13)⟩, [6]),
 (⟨(some 15), none, .faddr 172 (tm 14) 1 1⟩, [7]),
 (⟨(some 16), none, .load 29 (tm 15) none⟩, [8]),
 (⟨(some 17), none, .len false 29 3 (tm 16)⟩, [9]),
 (⟨(some 18), none, .build 118 [(0, (tm 12)), (1, (tm 17))] [(.int .i64 0), (.int .i64 0)] [(0, 1, (tm 12)), (1, 1, (tm 17))]⟩, [5, 10]),
 (⟨(some 19), none, .eqT false 118 (tm 7) (tm 18)⟩, [0, 11])])
 (.ite (tm 19)
 (.seq
 (.ops [⟨(some 4), none, .mov (kc 0)⟩,
 ⟨(some 5), none, .mov (kc 4)⟩])
 .ret)
 .skip))
 (.seq
 (.ops [⟨(some 20), none, .mkfn (.func 116) [] [(tm 2), (tm 3)]⟩,
 ⟨(some 6), none, .mov (tm 20)⟩])
 (.seq
 (.ops [⟨(some 22), none, .bslice 35 4 [(0, (kc 0)), (1, (kc 1)), (2, (kc 2)), (3, (kc 3))] 3 1 [(.int .i64 0)]⟩,
 ⟨(some 23), none, .mov (tm 6)⟩,
 ⟨(some 24), none, .call 89 [(tm 22), (tm 23)] 119⟩,
 ⟨(some 21), none, .mov (tm 24)⟩,
 ⟨(some 25), none, .extract (tm 21) 0⟩,
 ⟨(some 26), none, .extract (tm 21) 1⟩,
 ⟨(some 5), none, .mov (tm 25)⟩,
 ⟨(some 4), none, .mov (tm 26)⟩])
 (.seq
 (.ops [⟨(some 27), none, .mov (tm 4)⟩,
 ⟨(some 28), none, .mov (tm 5)⟩,
 ⟨(some 4), none, .mov (tm 27)⟩,
 ⟨(some 5), none, .mov (tm 28)⟩])
 .ret)))))
theorem fn80 : FnOK Try.prog 80 29 [.tmp 4, .tmp 5] L80 := ⟨Try.f80, Try.func80, by kernel_rfl, Try.ntmps80, by rw [Try.results80], by kernel_rfl⟩
def L81 : LCode :=
 (.seq
 (.ops [⟨(some 3), none, .box 118 (tm 1)⟩,
 ⟨(some 4), none, .mov (kc 0)⟩])
 (.seq
 (.seq
 (.dops [(⟨(some 10), none, .mov (tm 0)⟩, []),
 (⟨(some 11), none, .nilck (tm 10)⟩, [0]),
 (⟨(some 12), none, .faddr 172 (tm 11) 2 2⟩, [1]),
 (⟨(some 13), none, .load 170 (tm 12) none⟩, [2]),
 (⟨(some 14), none, .load 118 (tm 3) (some 2)⟩, []),
 (⟨(some 15), none, .lookup 170 (tm 13) (tm 14) true 118 3 [(.int .i64 0)]⟩, [3, 4]),
 (⟨(some 9), none, .mov (tm 15)⟩, [5]),
 (⟨(some 16), none, .extract (tm 9) 0⟩, [6]),
 (⟨(some 17), none, .extract (tm 9) 1⟩, [6]),
 (⟨(some 5), none, .mov (tm 16)⟩, [7, 0, 1, 2, 3, 4, 5, 6, 7]),
 (⟨(some 6), none, .mov (tm 17)⟩, [8, 9, 0, 1, 2, 3, 4, 5, 6, 7, 8, 9])])
 (.seq
 (.ops [⟨(some 18), none, .mov (tm 6)⟩])
 (.ite (tm 18)
 (.seq
 (.ops [⟨(some 19), none, .mov (tm 5)⟩,
 ⟨(some 4), none, .mov (tm 19)⟩])
 .ret)
 .skip)))
 (.seq
 (.ops [⟨(some 21), none, .mov (tm 0)⟩,
 ⟨(some 22), none, .load 118 (tm 3) (some 2)⟩,
 ⟨(some 23), none, .call 80 [(tm 21), (tm 22)] 119⟩,
 ⟨(some 20), none, .mov (tm 23)⟩,
 ⟨(some 24), none, .extract (tm 20) 0⟩,
 ⟨(some 25), none, .extract (tm 20) 1⟩,
 ⟨(some 7), none, .mov (tm 24)⟩,
 ⟨(some 8), none, .mov (tm 25)⟩])
 (.seq
 (.dops [(⟨(some 26), none, .mov (tm 0)⟩, []),
 (⟨(some 27), none, .nilck (tm 26)⟩, [0]),
 (⟨(some 28), none, .faddr 172 (tm 27) 2 2⟩, [1]),
 (⟨(some 29), none, .load 170 (tm 28) none⟩, [2]),
 (⟨(some 30), none, .load 118 (tm 3) (some 2)⟩, []),
 (⟨(some 31), none, .mov (tm 7)⟩, []),
 (⟨none, none, .mapup 170 (tm 29) (tm 30) (tm 31) 118 3⟩, [3, 4, 5, 0, 1, 2, 3, 4, 5])])
 (.seq
 (.ops [⟨(some 32), none, .mov (tm 7)⟩,
 ⟨(some 4), none, .mov (tm 32)⟩])
 .ret)))))
theorem fn81 : FnOK Try.prog 81 33 [.tmp 4] L81 := ⟨Try.f81, Try.func81, by kernel_rfl, Try.ntmps81, by rw [Try.results81], by kernel_rfl⟩
def L82 : LCode :=
 (.seq
 (.ops [⟨(some 0), none, .alloc 127 [(.bool false), (.bool false), .nilFunc, (.bool false), (.bool false), .nilFunc, (.bool false), (.bool false), .nilFunc, (.bool false), (.bool false), .nilFunc]⟩])
 (.seq
 (.ops [⟨(some 1), none, .build 126 [(0, (.const (.bool true))), (1, (.const (.bool false))), (2, (.func 117))] [(.bool false), (.bool false), .nilFunc] [(0, 1, (.const (.bool true))), (1, 1, (.const (.bool false))), (2, 1, (.func 117))]⟩,
 ⟨(some 2), none, .iaddrA 127 (tm 0) (kc 0) 4 3⟩,
 ⟨none, none, .store 126 (tm 2) (tm 1) 3⟩])
 (.seq
 (.ops [⟨(some 3), none, .build 126 [(0, (.const (.bool true))), (1, (.const (.bool true))), (2, (.func 118))] [(.bool false), (.bool false), .nilFunc] [(0, 1, (.const (.bool true))), (1, 1, (.const (.bool true))), (2, 1, (.func 118))]⟩,
 ⟨(some 4), none, .iaddrA 127 (tm 0) (kc 1) 4 3⟩,
 ⟨none, none, .store 126 (tm 4) (tm 3) 3⟩])
 (.seq
 (.ops [⟨(some 5), none, .build 126 [(0, (.const (.bool true))), (1, (.const (.bool false))), (2, (.func 119))] [(.bool false), (.bool false), .nilFunc] [(0, 1, (.const (.bool true))), (1, 1, (.const (.bool false))), (2, 1, (.func 119))]⟩,
 ⟨(some 6), none, .iaddrA 127 (tm 0) (kc 2) 4 3⟩,
 ⟨none, none, .store 126 (tm 6) (tm 5) 3⟩])
 (.seq
 (.ops [⟨(some 7), none, .build 126 [(0, (.const (.bool false))), (1, (.const (.bool true))), (2, (.func 120))] [(.bool false), (.bool false), .nilFunc] [(0, 1, (.const (.bool false))), (1, 1, (.const (.bool true))), (2, 1, (.func 120))]⟩,
 ⟨(some 8), none, .iaddrA 127 (tm 0) (kc 3) 4 3⟩,
 ⟨none, none, .store 126 (tm 8) (tm 7) 3⟩])
 (.seq
 (.ops [⟨(some 9), none, .load 127 (tm 0) (some 12)⟩,
 ⟨none, none, .store 127 (tm 0) (tm 9) 12⟩])
 .ret))))))
theorem fn82 : FnOK Try.prog 82 10 [.cell 0 127] L82 := ⟨Try.f82, Try.func82, by kernel_rfl, Try.ntmps82, by rw [Try.results82], by kernel_rfl⟩
def L83 : LCode :=
 (.seq
 (.ops [⟨(some 5), none, .box 118 (tm 2)⟩,
 ⟨(some 6), none, .alloc 118 [(.int .i64 0), (.int .i64 0)]⟩,
 ⟨(some 7), none, .mov (kc 0)⟩])
 (.seq
 (.ops [⟨(some 11), none, .mov (tm 0)⟩,
 ⟨(some 12), none, .mkfn (.func 121) [(tm 11)] []⟩,
 ⟨(some 8), none, .mov (tm 12)⟩])
 (.seq
 (.ops [⟨(some 13), none, .load 118 (tm 5) (some 2)⟩,
 ⟨(some 9), none, .alloc 118 [(.int .i64 0), (.int .i64 0)]⟩,
 ⟨none, none, .store 118 (tm 9) (tm 13) 2⟩,
 ⟨(some 10), none, .mov (kc 1)⟩])
 (.seq
 (.seq
 (.ops [⟨(some 14), none, .mov (tm 1)⟩,
 ⟨(some 15), none, .bin .neq 3 (tm 14) (kc 2)⟩])
 (.ite (tm 15)
 (.ops [⟨(some 16), none, .faddr 118 (tm 9) 1 1⟩,
 ⟨(some 17), none, .load 3 (tm 16) none⟩,
 ⟨(some 18), none, .bin .add 3 (tm 17) (kc 1)⟩,
 ⟨(some 19), none, .faddr 118 (tm 9) 1 1⟩,
 ⟨none, none, .store 3 (tm 19) (tm 18) 1⟩])
 .skip))
 (.seq
 (.seq
 (.ops [⟨(some 20), none, .mov (tm 1)⟩,
 ⟨(some 21), none, .bin .neq 3 (tm 20) (kc 3)⟩])
 (.ite (tm 21)
 (.ops [⟨(some 22), none, .faddr 118 (tm 9) 0 0⟩,
 ⟨(some 23), none, .load 3 (tm 22) none⟩,
 ⟨(some 24), none, .bin .add 3 (tm 23) (kc 1)⟩,
 ⟨(some 25), none, .faddr 118 (tm 9) 0 0⟩,
 ⟨none, none, .store 3 (tm 25) (tm 24) 1⟩])
 .skip))
 (.seq
 (.seq
 (.dops [(⟨(some 26), none, .faddr 118 (tm 9) 0 0⟩, []),
 (⟨(some 27), none, .load 3 (tm 26) none⟩, [0]),
 (⟨(some 28), none, .mov (tm 0)⟩, []),
 (⟨(some 29), none, .nilck (tm 28)⟩, [2]),
 (⟨(some 30), none, .faddr 172 (tm 29) 0 0⟩, [3]),
 (⟨(some 31), none, .load 29 (tm 30) none⟩, [4]),
 (⟨(some 32), none, .len false 29 3 (tm 31)⟩, [5]),
 (⟨(some 33), none, .bin .gtr 3 (tm 27) (tm 32)⟩, [1, 6]),
 (⟨(some 34), none, .mov (tm 33)⟩, [7]),
 (⟨(some 35), some (34, false), .faddr 118 (tm 9) 1 1⟩, [8]),
 (⟨(some 36), some (34, false), .load 3 (tm 35) none⟩, [9, 8]),
 (⟨(some 37), some (34, false), .mov (tm 0)⟩, [8]),
 (⟨(some 38), some (34, false), .nilck (tm 37)⟩, [11, 8]),
 (⟨(some 39), some (34, false), .faddr 172 (tm 38) 1 1⟩, [12, 8]),
 (⟨(some 40), some (34, false), .load 29 (tm 39) none⟩, [13, 8]),
 (⟨(some 41), some (34, false), .len false 29 3 (tm 40)⟩, [14, 8]),
 (⟨(some 42), some (34, false), .bin .gtr 3 (tm 36) (tm 41)⟩, [10, 15, 8]),
 (⟨(some 43), none, .pick (tm 34) (.const (.bool true)) (tm 42)⟩, [8, 16])])
 (.ite (tm 43)
 (.seq
 (.ops [⟨(some 44), none, .load 118 (tm 5) (some 2)⟩,
 ⟨none, none, .store 118 (tm 6) (tm 44) 2⟩,
 ⟨(some 7), none, .mov (kc (-1))⟩])
 .ret)
 .skip))
 (.seq
 (.seq
 (.ops [⟨(some 45), none, .mov (tm 1)⟩,
 ⟨(some 46), none, .bin .eql 3 (tm 45) (kc 0)⟩,
 ⟨(some 47), none, .mov (tm 46)⟩,
 ⟨(some 48), some (47, false), .mov (tm 1)⟩,
 ⟨(some 49), some (47, false), .bin .eql 3 (tm 48) (kc 1)⟩,
 ⟨(some 50), none, .pick (tm 47) (.const (.bool true)) (tm 49)⟩])
 (.ite (tm 50)
 (.seq
 (.seq
 (.ops [⟨(some 51), none, .mov (tm 8)⟩,
 ⟨(some 52), none, .load 118 (tm 5) (some 2)⟩,
 ⟨(some 53), none, .callv (tm 51) [(tm 52)] 4⟩,
 ⟨(some 54), none, .mov (tm 1)⟩,
 ⟨(some 55), none, .bin .eql 3 (tm 54) (kc 0)⟩,
 ⟨(some 56), none, .eqT true 4 (tm 53) (tm 55)⟩])
 (.ite (tm 56)
 (.seq
 (.ops [⟨(some 57), none, .load 118 (tm 5) (some 2)⟩,
 ⟨none, none, .store 118 (tm 6) (tm 57) 2⟩,
 ⟨(some 7), none, .mov (kc (-1))⟩])
 .ret)
 .skip))
 (.ops [⟨(some 58), none, .mov (tm 1)⟩,
 ⟨(some 10), none, .mov (tm 58)⟩]))
 .skip))
 (.seq
 (.ops [⟨(some 59), none, .load 118 (tm 9) (some 2)⟩,
 ⟨(some 60), none, .mov (tm 10)⟩,
 ⟨none, none, .store 118 (tm 6) (tm 59) 2⟩,
 ⟨(some 7), none, .mov (tm 60)⟩])
 .ret))))))))
theorem fn83 : FnOK Try.prog 83 61 [.cell 6 118, .tmp 7] L83 := ⟨Try.f83, Try.func83, by kernel_rfl, Try.ntmps83, by rw [Try.results83], by kernel_rfl⟩
def L85 : LCode :=
 (.seq
 (.ops [⟨(some 2), none, .mov (.const (.bool false))⟩])
 (.seq
 (.seq
 (.ops [⟨(some 5), none, .mov (tm 0)⟩,
 ⟨(some 6), none, .range 9 (tm 5) true⟩])
 (.block 0
 (.loop
 (.seq
 (.ops [⟨(some 7), none, .next (tm 6) true 0⟩,
 ⟨(some 8), none, .extract (tm 7) 0⟩])
 (.seq
 (.ite (tm 8)
 .skip
 (.exit 0))
 (.block 1
 (.seq
 (.ops [⟨(some 9), none, .extract (tm 7) 2⟩,
 ⟨(some 4), none, .mov (tm 9)⟩])
 (.seq
 (.ops [⟨(some 10), none, .mov (tm 4)⟩,
 ⟨(some 11), none, .bin .lss 21 (tm 10) (.const (.int .i32 97))⟩,
 ⟨(some 12), none, .mov (tm 11)⟩,
 ⟨(some 13), some (12, false), .mov (tm 4)⟩,
 ⟨(some 14), some (12, false), .bin .gtr 21 (tm 13) (.const (.int .i32 122))⟩,
 ⟨(some 15), none, .pick (tm 12) (.const (.bool true)) (tm 14)⟩])
 (.ite (tm 15)
 (.seq
 (.ops [⟨(some 2), none, .mov (.const (.bool false))⟩])
 .ret)
 .skip)))))))))
 (.seq
 (.ops [⟨(some 16), none, .mov (tm 0)⟩,
 ⟨(some 17), none, .len true 9 3 (tm 16)⟩,
 ⟨(some 18), none, .bslice 35 1 [(0, (tm 17))] 3 1 [(.int .i64 0)]⟩,
 ⟨(some 19), none, .call 57 [(kc 1), (kc 8), (tm 18)] 4⟩,
 ⟨(some 20), none, .un .not (tm 19)⟩,
 ⟨(some 2), none, .mov (tm 20)⟩])
 .ret)))
theorem fn85 : FnOK Try.prog 85 21 [.tmp 2] L85 := ⟨Try.f85, Try.func85, by kernel_rfl, Try.ntmps85, by rw [Try.results85], by kernel_rfl⟩
def L87 : LCode :=
 (.seq
 (.ops [⟨(some 2), none, .box 94 (tm 0)⟩,
 ⟨(some 3), none, .box 29 (tm 1)⟩,
 ⟨(some 4), none, .mov (kc 0)⟩])
 (.seq
 (.ops [⟨(some 5), none, .alloc 3 [(.int .i64 0)]⟩,
 ⟨none, none, .store 3 (tm 5) (kc (-1)) 1⟩])
 (.seq
 (.seq
 (.ops [⟨(some 8), none, .load 94 (tm 2) none⟩,
 ⟨(some 9), none, .call 105 [(tm 8)] 149⟩])
 (.block 0
 (.rfun (tm 9) [10]
 (.ops [⟨(some 6), none, .alloc 105 [(.int .i64 0), (.int .i64 0), (.int .i64 0), (.int .i64 0), (.int .i64 0)]⟩,
 ⟨none, none, .store 105 (tm 6) (tm 10) 5⟩])
 (.block 1
 (.seq
 (.dops [(⟨(some 11), none, .load 29 (tm 3) none⟩, []),
 (⟨(some 12), none, .load 94 (tm 2) none⟩, []),
 (⟨(some 13), none, .load 105 (tm 6) (some 5)⟩, []),
 (⟨(some 14), none, .call 107 [(tm 12), (tm 13)] 29⟩, [1, 2]),
 (⟨(some 15), none, .call 79 [(tm 11), (tm 14)] 115⟩, [0, 3, 3]),
 (⟨(some 16), none, .build 118 [] [(.int .i64 0), (.int .i64 0)] []⟩, []),
 (⟨(some 17), none, .call 81 [(tm 15), (tm 16)] 3⟩, [4, 5, 4]),
 (⟨(some 7), none, .mov (tm 17)⟩, [6, 6, 0, 1, 2, 3, 4, 5, 6])])
 (.seq
 (.ops [⟨(some 18), none, .load 3 (tm 5) none⟩,
 ⟨(some 19), none, .bin .lss 3 (tm 18) (kc 0)⟩,
 ⟨(some 20), none, .mov (tm 19)⟩,
 ⟨(some 21), some (20, false), .mov (tm 7)⟩,
 ⟨(some 22), some (20, false), .load 3 (tm 5) none⟩,
 ⟨(some 23), some (20, false), .bin .lss 3 (tm 21) (tm 22)⟩,
 ⟨(some 24), none, .pick (tm 20) (.const (.bool true)) (tm 23)⟩])
 (.ite (tm 24)
 (.ops [⟨(some 25), none, .mov (tm 7)⟩,
 ⟨none, none, .store 3 (tm 5) (tm 25) 1⟩])
 .skip)))))))
 (.seq
 (.ops [⟨(some 26), none, .load 3 (tm 5) none⟩,
 ⟨(some 4), none, .mov (tm 26)⟩])
 .ret))))
theorem fn87 : FnOK Try.prog 87 27 [.tmp 4] L87 := ⟨Try.f87, Try.func87, by kernel_rfl, Try.ntmps87, by rw [Try.results87], by kernel_rfl⟩
def L89 : LCode :=
 (.seq
 (.ops [⟨(some 4), none, .mov (kc 0)⟩,
 ⟨(some 5), none, .mov (kc 0)⟩])
 (.seq
 (.ops [⟨(some 5), none, .mov (kc (-1))⟩])
 (.seq
 (.seq
 (.ops [⟨(some 9), none, .mov (tm 0)⟩,
 ⟨(some 10), none, .len false 35 3 (tm 9)⟩,
 ⟨(some 11), none, .mov (kc 0)⟩])
 (.block 0
 (.loop
 (.seq
 (.ops [⟨(some 12), none, .bin .lss 3 (tm 11) (tm 10)⟩])
 (.seq
 (.ite (tm 12)
 .skip
 (.exit 0))
 (.seq
 (.block 1
 (.seq
 (.ops [⟨(some 13), none, .iaddr 35 (tm 9) (tm 11) 1⟩,
 ⟨(some 14), none, .load 3 (tm 13) none⟩,
 ⟨(some 7), none, .mov (tm 14)⟩])
 (.seq
 (.ops [⟨(some 15), none, .mov (tm 1)⟩,
 ⟨(some 16), none, .mov (tm 7)⟩,
 ⟨(some 17), none, .callv (tm 15) [(tm 16)] 3⟩,
 ⟨(some 8), none, .mov (tm 17)⟩])
 (.seq
 (.ops [⟨(some 18), none, .mov (tm 8)⟩,
 ⟨(some 19), none, .bin .geq 3 (tm 18) (kc 0)⟩,
 ⟨(some 20), none, .mov (tm 19)⟩,
 ⟨(some 21), some (20, true), .mov (tm 5)⟩,
 ⟨(some 22), some (20, true), .bin .lss 3 (tm 21) (kc 0)⟩,
 ⟨(some 23), some (20, true), .mov (tm 22)⟩,
 ⟨(some 24), some (23, false), .mov (tm 8)⟩,
 ⟨(some 25), some (23, false), .mov (tm 5)⟩,
 ⟨(some 26), some (23, false), .bin .lss 3 (tm 24) (tm 25)⟩,
 ⟨(some 27), some (20, true), .pick (tm 23) (.const (.bool true)) (tm 26)⟩,
 ⟨(some 28), none, .pick (tm 20) (tm 27) (.const (.bool false))⟩])
 (.ite (tm 28)
 (.ops [⟨(some 29), none, .mov (tm 7)⟩,
 ⟨(some 30), none, .mov (tm 8)⟩,
 ⟨(some 4), none, .mov (tm 29)⟩,
 ⟨(some 5), none, .mov (tm 30)⟩])
 .skip)))))
 (.ops [⟨(some 31), none, .bin .add 3 (tm 11) (kc 1)⟩,
 ⟨(some 11), none, .mov (tm 31)⟩])))))))
 (.seq
 (.ops [⟨(some 32), none, .mov (tm 4)⟩,
 ⟨(some 33), none, .mov (tm 5)⟩,
 ⟨(some 4), none, .mov (tm 32)⟩,
 ⟨(some 5), none, .mov (tm 33)⟩])
 .ret))))
theorem fn89 : FnOK Try.prog 89 34 [.tmp 4, .tmp 5] L89 := ⟨Try.f89, Try.func89, by kernel_rfl, Try.ntmps89, by rw [Try.results89], by kernel_rfl⟩
def L90 : LCode :=
 (.seq
 (.ops [⟨(some 4), none, .mov (kc 0)⟩])
 (.seq
 (.dops [(⟨(some 5), none, .faddr 24 (tm 1) 1 1⟩, []),
 (⟨(some 6), none, .load 22 (tm 5) none⟩, [0]),
 (⟨(some 7), none, .mov (tm 0)⟩, []),
 (⟨(some 8), none, .iaddr 22 (tm 6) (tm 7) 2⟩, [1, 2]),
 (⟨(some 9), none, .load 64 (tm 8) (some 2)⟩, [3]),
 (⟨(some 10), none, .call 71 [(tm 9)] 94⟩, [4]),
 (⟨(some 11), none, .load 29 (tm 2) none⟩, []),
 (⟨(some 12), none, .call 87 [(tm 10), (tm 11)] 3⟩, [5, 6, 5]),
 (⟨(some 4), none, .mov (tm 12)⟩, [7, 7, 0, 1, 2, 3, 4, 5, 6, 7])])
 .ret))
theorem fn90 : FnOK Try.prog 90 13 [.tmp 4] L90 := ⟨Try.f90, Try.func90, by kernel_rfl, Try.ntmps90, by rw [Try.results90], by kernel_rfl⟩
def L91 : LCode :=
 (.seq
 (.ops [⟨(some 2), none, .alloc 84 [(.slice none 0 0), (.int .i64 0), (.int .i64 0)]⟩])
 (.seq
 (.ops [⟨(some 3), none, .mov (tm 0)⟩,
 ⟨(some 4), none, .call 42 [(tm 3)] 29⟩,
 ⟨(some 5), none, .build 84 [(0, (tm 4))] [(.slice none 0 0), (.int .i64 0), (.int .i64 0)] [(0, 1, (tm 4))]⟩,
 ⟨none, none, .store 84 (tm 2) (tm 5) 3⟩])
 .ret))
theorem fn91 : FnOK Try.prog 91 6 [.cell 2 84] L91 := ⟨Try.f91, Try.func91, by kernel_rfl, Try.ntmps91, by rw [Try.results91], by kernel_rfl⟩
def L92 : LCode :=
 (.seq
 (.ops [⟨(some 4), none, .alloc 84 [(.slice none 0 0), (.int .i64 0), (.int .i64 0)]⟩])
 (.seq
 (.ops [⟨(some 5), none, .mov (tm 0)⟩,
 ⟨(some 6), none, .mov (tm 1)⟩,
 ⟨(some 7), none, .call 56 [(tm 5), (tm 6)] 82⟩,
 ⟨(some 8), none, .build 84 [(1, (tm 7))] [(.slice none 0 0), (.int .i64 0), (.int .i64 0)] [(1, 2, (tm 7))]⟩,
 ⟨none, none, .store 84 (tm 4) (tm 8) 3⟩])
 .ret))
theorem fn92 : FnOK Try.prog 92 9 [.cell 4 84] L92 := ⟨Try.f92, Try.func92, by kernel_rfl, Try.ntmps92, by rw [Try.results92], by kernel_rfl⟩
def L96 : LCode :=
 (.seq
 (.ops [⟨(some 4), none, .mov (.const (.bool false))⟩])
 (.seq
 (.ops [⟨(some 5), none, .mov (tm 0)⟩,
 ⟨(some 6), none, .mov (tm 1)⟩,
 ⟨(some 7), none, .call 125 [(tm 5), (tm 6)] 3⟩,
 ⟨(some 8), none, .bin .geq 3 (tm 7) (kc 0)⟩,
 ⟨(some 4), none, .mov (tm 8)⟩])
 .ret))
theorem fn96 : FnOK Try.prog 96 9 [.tmp 4] L96 := ⟨Try.f96, Try.func96, by kernel_rfl, Try.ntmps96, by rw [Try.results96], by kernel_rfl⟩
def L97 : LCode :=
 (.seq
 (.ops [⟨(some 4), none, .mov (.const (.bool false))⟩])
 (.seq
 (.ops [⟨(some 5), none, .mov (tm 0)⟩,
 ⟨(some 6), none, .load 3 (tm 1) none⟩,
 ⟨(some 7), none, .bin .lss 3 (tm 5) (tm 6)⟩,
 ⟨(some 8), none, .mov (tm 7)⟩,
 ⟨(some 9), some (8, false), .mov (tm 0)⟩,
 ⟨(some 10), some (8, false), .load 3 (tm 2) none⟩,
 ⟨(some 11), some (8, false), .bin .gtr 3 (tm 9) (tm 10)⟩,
 ⟨(some 12), none, .pick (tm 8) (.const (.bool true)) (tm 11)⟩,
 ⟨(some 4), none, .mov (tm 12)⟩])
 .ret))
theorem fn97 : FnOK Try.prog 97 13 [.tmp 4] L97 := ⟨Try.f97, Try.func97, by kernel_rfl, Try.ntmps97, by rw [Try.results97], by kernel_rfl⟩
def L98 : LCode :=
 (.seq
 (.ops [⟨(some 3), none, .box 3 (tm 0)⟩,
 ⟨(some 4), none, .box 3 (tm 1)⟩,
 ⟨(some 6), none, .mov (.const (.bool false))⟩])
 (.seq
 (.ops [⟨(some 7), none, .mov (tm 2)⟩,
 ⟨(some 8), none, .mkfn (.func 126) [] [(tm 3), (tm 4)]⟩,
 ⟨(some 9), none, .call 96 [(tm 7), (tm 8)] 4⟩,
 ⟨(some 6), none, .mov (tm 9)⟩])
 .ret))
theorem fn98 : FnOK Try.prog 98 10 [.tmp 6] L98 := ⟨Try.f98, Try.func98, by kernel_rfl, Try.ntmps98, by rw [Try.results98], by kernel_rfl⟩
def L99 : LCode :=
 (.seq
 (.ops [⟨(some 4), none, .mov (kc 0)⟩])
 (.seq
 (.seq
 (.ops [⟨(some 6), none, .mov (tm 0)⟩,
 ⟨(some 7), none, .len false 22 3 (tm 6)⟩,
 ⟨(some 8), none, .mov (kc 0)⟩])
 (.block 0
 (.loop
 (.seq
 (.ops [⟨(some 9), none, .bin .lss 3 (tm 8) (tm 7)⟩])
 (.seq
 (.ite (tm 9)
 .skip
 (.exit 0))
 (.seq
 (.block 1
 (.seq
 (.ops [⟨(some 10), none, .mov (tm 8)⟩,
 ⟨(some 5), none, .mov (tm 10)⟩])
 (.seq
 (.ops [⟨(some 11), none, .mov (tm 1)⟩,
 ⟨(some 12), none, .mov (tm 0)⟩,
 ⟨(some 13), none, .mov (tm 5)⟩,
 ⟨(some 14), none, .iaddr 22 (tm 12) (tm 13) 2⟩,
 ⟨(some 15), none, .load 64 (tm 14) (some 2)⟩,
 ⟨(some 16), none, .callv (tm 11) [(tm 15)] 4⟩])
 (.ite (tm 16)
 (.seq
 (.ops [⟨(some 17), none, .mov (tm 5)⟩,
 ⟨(some 4), none, .mov (tm 17)⟩])
 .ret)
 .skip))))
 (.ops [⟨(some 18), none, .bin .add 3 (tm 8) (kc 1)⟩,
 ⟨(some 8), none, .mov (tm 18)⟩])))))))
 (.seq
 (.ops [⟨(some 4), none, .mov (kc (-1))⟩])
 .ret)))
theorem fn99 : FnOK Try.prog 99 19 [.tmp 4] L99 := ⟨Try.f99, Try.func99, by kernel_rfl, Try.ntmps99, by rw [Try.results99], by kernel_rfl⟩
def L102 : LCode :=
 (.seq
 (.ops [⟨(some 4), none, .mov (.const (.bool false))⟩])
 (.seq
 (.ops [⟨(some 5), none, .mov (tm 0)⟩,
 ⟨(some 6), none, .mov (tm 1)⟩,
 ⟨(some 7), none, .call 127 [(tm 5), (tm 6)] 3⟩,
 ⟨(some 8), none, .bin .geq 3 (tm 7) (kc 0)⟩,
 ⟨(some 4), none, .mov (tm 8)⟩])
 .ret))
theorem fn102 : FnOK Try.prog 102 9 [.tmp 4] L102 := ⟨Try.f102, Try.func102, by kernel_rfl, Try.ntmps102, by rw [Try.results102], by kernel_rfl⟩
def L103 : LCode :=
 (.seq
 (.ops [⟨(some 2), none, .mov (.const (.bool false))⟩])
 (.seq
 (.ops [⟨(some 3), none, .mov (tm 0)⟩,
 ⟨(some 4), none, .call 85 [(tm 3)] 4⟩,
 ⟨(some 5), none, .un .not (tm 4)⟩,
 ⟨(some 2), none, .mov (tm 5)⟩])
 .ret))
theorem fn103 : FnOK Try.prog 103 6 [.tmp 2] L103 := ⟨Try.f103, Try.func103, by kernel_rfl, Try.ntmps103, by rw [Try.results103], by kernel_rfl⟩
def L105 : LCode :=
 (.seq
 (.ops [⟨(some 1), none, .box 94 (tm 0)⟩,
 ⟨(some 2), none, .mov (.const .nilFunc)⟩])
 (.seq
 (.ops [⟨(some 3), none, .mkfn (.func 128) [] [(tm 1)]⟩,
 ⟨(some 2), none, .mov (tm 3)⟩])
 .ret))
theorem fn105 : FnOK Try.prog 105 4 [.tmp 2] L105 := ⟨Try.f105, Try.func105, by kernel_rfl, Try.ntmps105, by rw [Try.results105], by kernel_rfl⟩
def L106 : LCode :=
 (.seq
 (.ops [⟨(some 6), none, .mov (.const (.bool false))⟩])
 (.seq
 (.seq
 (.ops [⟨(some 10), none, .mov (tm 0)⟩,
 ⟨(some 11), none, .len false 29 3 (tm 10)⟩,
 ⟨(some 12), none, .mov (tm 1)⟩,
 ⟨(some 13), none, .len false 29 3 (tm 12)⟩,
 ⟨(some 14), none, .bin .neq 3 (tm 11) (tm 13)⟩])
 (.ite (tm 14)
 (.seq
 (.ops [⟨(some 6), none, .mov (.const (.bool false))⟩])
 .ret)
 .skip))
 (.seq
 (.seq
 (.ops [⟨(some 15), none, .mov (tm 0)⟩,
 ⟨(some 16), none, .len false 29 3 (tm 15)⟩,
 ⟨(some 17), none, .mov (kc 0)⟩])
 (.block 0
 (.loop
 (.seq
 (.ops [⟨(some 18), none, .bin .lss 3 (tm 17) (tm 16)⟩])
 (.seq
 (.ite (tm 18)
 .skip
 (.exit 0))
 (.seq
 (.block 1
 (.seq
 (.ops [⟨(some 19), none, .mov (tm 17)⟩,
 ⟨(some 20), none, .iaddr 29 (tm 15) (tm 17) 1⟩,
 ⟨(some 21), none, .load 9 (tm 20) none⟩,
 ⟨(some 7), none, .mov (tm 19)⟩,
 ⟨(some 8), none, .mov (tm 21)⟩])
 (.seq
 (.ops [⟨(some 22), none, .mov (tm 1)⟩,
 ⟨(some 23), none, .mov (tm 7)⟩,
 ⟨(some 24), none, .iaddr 29 (tm 22) (tm 23) 1⟩,
 ⟨(some 25), none, .load 9 (tm 24) none⟩,
 ⟨(some 9), none, .mov (tm 25)⟩])
 (.seq
 (.ops [⟨(some 26), none, .mov (tm 2)⟩,
 ⟨(some 27), none, .mov (tm 8)⟩,
 ⟨(some 28), none, .mov (tm 9)⟩,
 ⟨(some 29), none, .callv (tm 26) [(tm 27), (tm 28)] 4⟩,
 ⟨(some 30), none, .un .not (tm 29)⟩])
 (.ite (tm 30)
 (.seq
 (.ops [⟨(some 6), none, .mov (.const (.bool false))⟩])
 .ret)
 .skip)))))
 (.ops [⟨(some 31), none, .bin .add 3 (tm 17) (kc 1)⟩,
 ⟨(some 17), none, .mov (tm 31)⟩])))))))
 (.seq
 (.ops [⟨(some 6), none, .mov (.const (.bool true))⟩])
 .ret))))
theorem fn106 : FnOK Try.prog 106 32 [.tmp 6] L106 := ⟨Try.f106, Try.func106, by kernel_rfl, Try.ntmps106, by rw [Try.results106], by kernel_rfl⟩
def L107 : LCode :=
 (.seq
 (.ops [⟨(some 3), none, .box 105 (tm 1)⟩,
 ⟨(some 4), none, .mov (.const (.slice none 0 0))⟩])
 (.seq
 (.ops [⟨(some 5), none, .mov (kc 0)⟩])
 (.seq
 (.seq
 (.ops [⟨(some 8), none, .mov (tm 0)⟩,
 ⟨(some 9), none, .nilck (tm 8)⟩,
 ⟨(some 10), none, .faddr 99 (tm 9) 0 0⟩,
 ⟨(some 11), none, .faddr 64 (tm 10) 1 1⟩,
 ⟨(some 12), none, .load 62 (tm 11) none⟩,
 ⟨(some 13), none, .len false 62 3 (tm 12)⟩,
 ⟨(some 14), none, .mov (kc 0)⟩])
 (.block 0
 (.loop
 (.seq
 (.ops [⟨(some 15), none, .bin .lss 3 (tm 14) (tm 13)⟩])
 (.seq
 (.ite (tm 15)
 .skip
 (.exit 0))
 (.seq
 (.block 1
 (.seq
 (.ops [⟨(some 16), none, .iaddr 62 (tm 12) (tm 14) 3⟩,
 ⟨(some 17), none, .load 84 (tm 16) (some 3)⟩,
 ⟨(some 7), none, .alloc 84 [(.slice none 0 0), (.int .i64 0), (.int .i64 0)]⟩,
 ⟨none, none, .store 84 (tm 7) (tm 17) 3⟩])
 (.seq
 (.seq
 (.ops [⟨(some 18), none, .faddr 84 (tm 7) 0 0⟩,
 ⟨(some 19), none, .load 29 (tm 18) none⟩,
 ⟨(some 20), none, .len false 29 3 (tm 19)⟩,
 ⟨(some 21), none, .bin .gtr 3 (tm 20) (kc 0)⟩])
 (.ite (tm 21)
 (.seq
 (.ops [⟨(some 22), none, .mov (tm 4)⟩,
 ⟨(some 23), none, .faddr 84 (tm 7) 0 0⟩,
 ⟨(some 24), none, .load 29 (tm 23) none⟩,
 ⟨(some 25), none, .append 29 29 (tm 22) (tm 24) 9 1 16 [(.string ⟨#[]⟩)]⟩,
 ⟨(some 4), none, .mov (tm 25)⟩])
 (.exit 1))
 .skip))
 (.seq
 (.ops [⟨(some 26), none, .mov (tm 4)⟩,
 ⟨(some 27), none, .mov (tm 5)⟩,
 ⟨(some 28), none, .iaddrA 105 (tm 3) (tm 27) 5 1⟩,
 ⟨(some 29), none, .load 3 (tm 28) none⟩,
 ⟨(some 30), none, .appendM 29 3 29 (tm 26) (tm 29) 9 1 16 [(.string ⟨#[]⟩)]⟩,
 ⟨(some 4), none, .mov (tm 30)⟩])
 (.ops [⟨(some 31), none, .mov (tm 5)⟩,
 ⟨(some 32), none, .bin .add 3 (tm 31) (kc 1)⟩,
 ⟨(some 5), none, .mov (tm 32)⟩])))))
 (.ops [⟨(some 33), none, .bin .add 3 (tm 14) (kc 1)⟩,
 ⟨(some 14), none, .mov (tm 33)⟩])))))))
 (.seq
 (.ops [⟨(some 34), none, .mov (tm 4)⟩,
 ⟨(some 4), none, .mov (tm 34)⟩])
 .ret))))
theorem fn107 : FnOK Try.prog 107 35 [.tmp 4] L107 := ⟨Try.f107, Try.func107, by kernel_rfl, Try.ntmps107, by rw [Try.results107], by kernel_rfl⟩
def L108 : LCode :=
 (.seq
 (.ops [⟨(some 4), none, .mov (.const (.bool false))⟩])
 (.seq
 (.ops [⟨(some 5), none, .mov (tm 0)⟩,
 ⟨(some 6), none, .bin .eql 9 (tm 5) (.const (.string ⟨#[]⟩))⟩,
 ⟨(some 7), none, .mov (tm 6)⟩,
 ⟨(some 8), some (7, false), .mov (tm 0)⟩,
 ⟨(some 9), some (7, false), .mov (tm 1)⟩,
 ⟨(some 10), some (7, false), .bin .eql 9 (tm 8) (tm 9)⟩,
 ⟨(some 11), none, .pick (tm 7) (.const (.bool true)) (tm 10)⟩,
 ⟨(some 4), none, .mov (tm 11)⟩])
 .ret))
theorem fn108 : FnOK Try.prog 108 12 [.tmp 4] L108 := ⟨Try.f108, Try.func108, by kernel_rfl, Try.ntmps108, by rw [Try.results108], by kernel_rfl⟩
def L113 : LCode :=
 (.seq
 (.ops [⟨(some 4), none, .mov (.const .nilIface)⟩])
 (.seq
 (.ops [⟨(some 5), none, .mov (tm 0)⟩,
 ⟨(some 6), none, .call 130 [(tm 5)] 0⟩])
 (.seq
 (.ops [⟨(some 7), none, .mov (tm 0)⟩,
 ⟨(some 8), none, .mov (tm 0)⟩,
 ⟨(some 9), none, .nilck (tm 8)⟩,
 ⟨(some 10), none, .faddr 160 (tm 9) 1 1⟩,
 ⟨(some 11), none, .load 58 (tm 10) none⟩,
 ⟨(some 12), none, .mov (tm 1)⟩,
 ⟨(some 13), none, .bslice 58 1 [(0, (tm 12))] 5 1 [(.int .u8 0)]⟩,
 ⟨(some 14), none, .append 58 58 (tm 11) (tm 13) 5 1 1 [(.int .u8 0)]⟩,
 ⟨(some 15), none, .nilck (tm 7)⟩,
 ⟨(some 16), none, .faddr 160 (tm 15) 1 1⟩,
 ⟨none, none, .store 58 (tm 16) (tm 14) 1⟩])
 (.seq
 (.ops [⟨(some 4), none, .mov (.const .nilIface)⟩])
 .ret))))
theorem fn113 : FnOK Try.prog 113 17 [.tmp 4] L113 := ⟨Try.f113, Try.func113, by kernel_rfl, Try.ntmps113, by rw [Try.results113], by kernel_rfl⟩
def L114 : LCode :=
 (.seq
 (.ops [⟨(some 4), none, .mov (kc 0)⟩,
 ⟨(some 5), none, .mov (.const .nilIface)⟩])
 (.seq
 (.ops [⟨(some 6), none, .mov (tm 0)⟩,
 ⟨(some 7), none, .call 130 [(tm 6)] 0⟩])
 (.seq
 (.ops [⟨(some 8), none, .mov (tm 0)⟩,
 ⟨(some 9), none, .mov (tm 0)⟩,
 ⟨(some 10), none, .nilck (tm 9)⟩,
 ⟨(some 11), none, .faddr 160 (tm 10) 1 1⟩,
 ⟨(some 12), none, .load 58 (tm 11) none⟩,
 ⟨(some 13), none, .mov (tm 1)⟩,
 ⟨(some 14), none, .appendS 58 9 58 (tm 12) (tm 13) 5 1 1 [(.int .u8 0)]⟩,
 ⟨(some 15), none, .nilck (tm 8)⟩,
 ⟨(some 16), none, .faddr 160 (tm 15) 1 1⟩,
 ⟨none, none, .store 58 (tm 16) (tm 14) 1⟩])
 (.seq
 (.ops [⟨(some 17), none, .mov (tm 1)⟩,
 ⟨(some 18), none, .len true 9 3 (tm 17)⟩,
 ⟨(some 4), none, .mov (tm 18)⟩,
 ⟨(some 5), none, .mov (.const .nilIface)⟩])
 .ret))))
theorem fn114 : FnOK Try.prog 114 19 [.tmp 4, .tmp 5] L114 := ⟨Try.f114, Try.func114, by kernel_rfl, Try.ntmps114, by rw [Try.results114], by kernel_rfl⟩
def L115 : LCode :=
 (.seq
 (.ops [⟨(some 2), none, .mov (.const (.string ⟨#[]⟩))⟩])
 (.seq
 (.dops [(⟨(some 3), none, .mov (tm 0)⟩, []),
 (⟨(some 4), none, .nilck (tm 3)⟩, [0]),
 (⟨(some 5), none, .faddr 160 (tm 4) 1 1⟩, [1]),
 (⟨(some 6), none, .load 58 (tm 5) none⟩, [2]),
 (⟨(some 7), none, .sdata 58 180 (tm 6)⟩, [3]),
 (⟨(some 8), none, .mov (tm 0)⟩, []),
 (⟨(some 9), none, .nilck (tm 8)⟩, [5]),
 (⟨(some 10), none, .faddr 160 (tm 9) 1 1⟩, [6]),
 (⟨(some 11), none, .load 58 (tm 10) none⟩, [7]),
 (⟨(some 12), none, .len false 58 3 (tm 11)⟩, [8]),
 (⟨(some 13), none, .ustr 180 3 9 (tm 7) (tm 12)⟩, [4, 9]),
 (⟨(some 2), none, .mov (tm 13)⟩, [10, 0, 1, 2, 3, 4, 5, 6, 7, 8, 9, 10])])
 .ret))
theorem fn115 : FnOK Try.prog 115 14 [.tmp 2] L115 := ⟨Try.f115, Try.func115, by kernel_rfl, Try.ntmps115, by rw [Try.results115], by kernel_rfl⟩
def L116 : LCode :=
 (.seq
 (.ops [⟨(some 4), none, .mov (kc 0)⟩])
 (.seq
 (.ops [⟨(some 8), none, .load 115 (tm 1) none⟩,
 ⟨(some 9), none, .mov (tm 0)⟩,
 ⟨(some 10), none, .load 118 (tm 2) (some 2)⟩,
 ⟨(some 11), none, .call 83 [(tm 8), (tm 9), (tm 10)] 129⟩,
 ⟨(some 7), none, .mov (tm 11)⟩,
 ⟨(some 12), none, .extract (tm 7) 0⟩,
 ⟨(some 13), none, .extract (tm 7) 1⟩,
 ⟨(some 5), none, .alloc 118 [(.int .i64 0), (.int .i64 0)]⟩,
 ⟨none, none, .store 118 (tm 5) (tm 12) 2⟩,
 ⟨(some 6), none, .mov (tm 13)⟩])
 (.seq
 (.seq
 (.ops [⟨(some 14), none, .mov (tm 6)⟩,
 ⟨(some 15), none, .bin .lss 3 (tm 14) (kc 0)⟩])
 (.ite (tm 15)
 (.seq
 (.ops [⟨(some 4), none, .mov (kc (-1))⟩])
 .ret)
 .skip))
 (.seq
 (.ops [⟨(some 16), none, .mov (tm 6)⟩,
 ⟨(some 17), none, .load 115 (tm 1) none⟩,
 ⟨(some 18), none, .load 118 (tm 5) (some 2)⟩,
 ⟨(some 19), none, .call 81 [(tm 17), (tm 18)] 3⟩,
 ⟨(some 20), none, .bin .add 3 (tm 16) (tm 19)⟩,
 ⟨(some 4), none, .mov (tm 20)⟩])
 .ret))))
theorem fn116 : FnOK Try.prog 116 21 [.tmp 4] L116 := ⟨Try.f116, Try.func116, by kernel_rfl, Try.ntmps116, by rw [Try.results116], by kernel_rfl⟩
def L117 : LCode :=
 (.seq
 (.ops [⟨(some 4), none, .mov (.const (.slice none 0 0))⟩])
 (.seq
 (.ops [⟨(some 5), none, .mov (tm 0)⟩,
 ⟨(some 6), none, .bslice 29 1 [(0, (tm 5))] 9 1 [(.string ⟨#[]⟩)]⟩,
 ⟨(some 4), none, .mov (tm 6)⟩])
 .ret))
theorem fn117 : FnOK Try.prog 117 7 [.tmp 4] L117 := ⟨Try.f117, Try.func117, by kernel_rfl, Try.ntmps117, by rw [Try.results117], by kernel_rfl⟩
def L118 : LCode :=
 (.seq
 (.ops [⟨(some 4), none, .mov (.const (.slice none 0 0))⟩])
 (.seq
 (.ops [⟨(some 5), none, .mov (tm 1)⟩,
 ⟨(some 6), none, .bslice 29 1 [(0, (tm 5))] 9 1 [(.string ⟨#[]⟩)]⟩,
 ⟨(some 4), none, .mov (tm 6)⟩])
 .ret))
theorem fn118 : FnOK Try.prog 118 7 [.tmp 4] L118 := ⟨Try.f118, Try.func118, by kernel_rfl, Try.ntmps118, by rw [Try.results118], by kernel_rfl⟩
def L119 : LCode :=
 (.seq
 (.ops [⟨(some 4), none, .mov (.const (.slice none 0 0))⟩])
 (.seq
 (.ops [⟨(some 4), none, .mov (.const (.slice none 0 0))⟩])
 .ret))
theorem fn119 : FnOK Try.prog 119 5 [.tmp 4] L119 := ⟨Try.f119, Try.func119, by kernel_rfl, Try.ntmps119, by rw [Try.results119], by kernel_rfl⟩
def L120 : LCode :=
 (.seq
 (.ops [⟨(some 4), none, .mov (.const (.slice none 0 0))⟩])
 (.seq
 (.ops [⟨(some 5), none, .mov (tm 1)⟩,
 ⟨(some 6), none, .bslice 29 1 [(0, (tm 5))] 9 1 [(.string ⟨#[]⟩)]⟩,
 ⟨(some 4), none, .mov (tm 6)⟩])
 .ret))
theorem fn120 : FnOK Try.prog 120 7 [.tmp 4] L120 := ⟨Try.f120, Try.func120, by kernel_rfl, Try.ntmps120, by rw [Try.results120], by kernel_rfl⟩
def L121 : LCode :=
 (.seq
 (.ops [⟨(some 3), none, .box 118 (tm 1)⟩,
 ⟨(some 4), none, .mov (.const (.bool false))⟩])
 (.seq
 (.dops [(⟨(some 5), none, .mov (tm 0)⟩, []),
 (⟨(some 6), none, .nilck (tm 5)⟩, [0]),
 (⟨(some 7), none, .faddr 172 (tm 6) 1 1⟩, [1]),
 (⟨(some 8), none, .load 29 (tm 7) none⟩, [2]),
 (⟨(some 9), none, .faddr 118 (tm 3) 1 1⟩, []),
 (⟨(some 10), none, .load 3 (tm 9) none⟩, [4]),
 (⟨(some 11), none, .iaddr 29 (tm 8) (tm 10) 1⟩, [3, 5]),
 (⟨(some 12), none, .load 9 (tm 11) none⟩, [6]),
 (⟨(some 13), none, .bin .eql 9 (tm 12) (.const (.string ⟨#[]⟩))⟩, [7]),
 (⟨(some 14), none, .mov (tm 13)⟩, [8]),
 (⟨(some 15), some (14, false), .mov (tm 0)⟩, [9]),
 (⟨(some 16), some (14, false), .nilck (tm 15)⟩, [10, 9]),
 (⟨(some 17), some (14, false), .faddr 172 (tm 16) 1 1⟩, [11, 9]),
 (⟨(some 18), some (14, false), .load 29 (tm 17) none⟩, [12, 9]),
 (⟨(some 19), some (14, false), .faddr 118 (tm 3) 1 1⟩, [9]),
 (⟨(some 20), some (14, false), .load 3 (tm 19) none⟩, [14, 9]),
 (⟨(some 21), some (14, false), .iaddr 29 (tm 18) (tm 20) 1⟩, [13, 15, 9]),
 (⟨(some 22), some (14, false), .load 9 (tm 21) none⟩, [16, 9]),
 (⟨(some 23), some (14, false), .mov (tm 0)⟩, [9]),
 (⟨(some 24), some (14, false), .nilck (tm 23)⟩, [18, 9]),
 (⟨(some 25), some (14, false), .faddr 172 (tm 24) 0 0⟩, [19, 9]),
 (⟨(some 26), some (14, false), .load 29 (tm 25) none⟩, [20, 9]),
 (⟨(some 27), some (14, false), .faddr 118 (tm 3) 0 0⟩, [9]),
 (⟨(some 28), some (14, false), .load 3 (tm 27) none⟩, [22, 9]),
 (⟨(some 29), some (14, false), .iaddr 29 (tm 26) (tm 28) 1⟩, [21, 23, 9]),
 (⟨(some 30), some (14, false), .load 9 (tm 29) none⟩, [24, 9]),
 (⟨(some 31), some (14, false), .bin .eql 9 (tm 22) (tm 30)⟩, [17, 25, 9]),
 (⟨(some 32), none, .pick (tm 14) (.const (.bool true)) (tm 31)⟩, [9, 26]),
 (⟨(some 4), none, .mov (tm 32)⟩, [27, 9, 0, 1, 2, 3, 4, 5, 6, 7, 8, 9, 10, 11, 12, 13, 14, 15, 16, 17, 18, 19, 20, 21, 22, 23, 24, 25, 26, 27])])
 .ret))
theorem fn121 : FnOK Try.prog 121 33 [.tmp 4] L121 := ⟨Try.f121, Try.func121, by kernel_rfl, Try.ntmps121, by rw [Try.results121], by kernel_rfl⟩
def L125 : LCode :=
 (.seq
 (.ops [⟨(some 4), none, .mov (kc 0)⟩])
 (.seq
 (.seq
 (.ops [⟨(some 6), none, .mov (tm 0)⟩,
 ⟨(some 7), none, .len false 35 3 (tm 6)⟩,
 ⟨(some 8), none, .mov (kc 0)⟩])
 (.block 0
 (.loop
 (.seq
 (.ops [⟨(some 9), none, .bin .lss 3 (tm 8) (tm 7)⟩])
 (.seq
 (.ite (tm 9)
 .skip
 (.exit 0))
 (.seq
 (.block 1
 (.seq
 (.ops [⟨(some 10), none, .mov (tm 8)⟩,
 ⟨(some 5), none, .mov (tm 10)⟩])
 (.seq
 (.ops [⟨(some 11), none, .mov (tm 1)⟩,
 ⟨(some 12), none, .mov (tm 0)⟩,
 ⟨(some 13), none, .mov (tm 5)⟩,
 ⟨(some 14), none, .iaddr 35 (tm 12) (tm 13) 1⟩,
 ⟨(some 15), none, .load 3 (tm 14) none⟩,
 ⟨(some 16), none, .callv (tm 11) [(tm 15)] 4⟩])
 (.ite (tm 16)
 (.seq
 (.ops [⟨(some 17), none, .mov (tm 5)⟩,
 ⟨(some 4), none, .mov (tm 17)⟩])
 .ret)
 .skip))))
 (.ops [⟨(some 18), none, .bin .add 3 (tm 8) (kc 1)⟩,
 ⟨(some 8), none, .mov (tm 18)⟩])))))))
 (.seq
 (.ops [⟨(some 4), none, .mov (kc (-1))⟩])
 .ret)))
theorem fn125 : FnOK Try.prog 125 19 [.tmp 4] L125 := ⟨Try.f125, Try.func125, by kernel_rfl, Try.ntmps125, by rw [Try.results125], by kernel_rfl⟩
def L126 : LCode :=
 (.seq
 (.ops [⟨(some 4), none, .mov (.const (.bool false))⟩])
 (.seq
 (.ops [⟨(some 5), none, .mov (tm 0)⟩,
 ⟨(some 6), none, .load 3 (tm 1) none⟩,
 ⟨(some 7), none, .bin .lss 3 (tm 5) (tm 6)⟩,
 ⟨(some 8), none, .mov (tm 7)⟩,
 ⟨(some 9), some (8, false), .mov (tm 0)⟩,
 ⟨(some 10), some (8, false), .load 3 (tm 2) none⟩,
 ⟨(some 11), some (8, false), .bin .gtr 3 (tm 9) (tm 10)⟩,
 ⟨(some 12), none, .pick (tm 8) (.const (.bool true)) (tm 11)⟩,
 ⟨(some 4), none, .mov (tm 12)⟩])
 .ret))
theorem fn126 : FnOK Try.prog 126 13 [.tmp 4] L126 := ⟨Try.f126, Try.func126, by kernel_rfl, Try.ntmps126, by rw [Try.results126], by kernel_rfl⟩
def L127 : LCode :=
 (.seq
 (.ops [⟨(some 4), none, .mov (kc 0)⟩])
 (.seq
 (.seq
 (.ops [⟨(some 6), none, .mov (tm 0)⟩,
 ⟨(some 7), none, .len false 29 3 (tm 6)⟩,
 ⟨(some 8), none, .mov (kc 0)⟩])
 (.block 0
 (.loop
 (.seq
 (.ops [⟨(some 9), none, .bin .lss 3 (tm 8) (tm 7)⟩])
 (.seq
 (.ite (tm 9)
 .skip
 (.exit 0))
 (.seq
 (.block 1
 (.seq
 (.ops [⟨(some 10), none, .mov (tm 8)⟩,
 ⟨(some 5), none, .mov (tm 10)⟩])
 (.seq
 (.ops [⟨(some 11), none, .mov (tm 1)⟩,
 ⟨(some 12), none, .mov (tm 0)⟩,
 ⟨(some 13), none, .mov (tm 5)⟩,
 ⟨(some 14), none, .iaddr 29 (tm 12) (tm 13) 1⟩,
 ⟨(some 15), none, .load 9 (tm 14) none⟩,
 ⟨(some 16), none, .callv (tm 11) [(tm 15)] 4⟩])
 (.ite (tm 16)
 (.seq
 (.ops [⟨(some 17), none, .mov (tm 5)⟩,
 ⟨(some 4), none, .mov (tm 17)⟩])
 .ret)
 .skip))))
 (.ops [⟨(some 18), none, .bin .add 3 (tm 8) (kc 1)⟩,
 ⟨(some 8), none, .mov (tm 18)⟩])))))))
 (.seq
 (.ops [⟨(some 4), none, .mov (kc (-1))⟩])
 .ret)))
theorem fn127 : FnOK Try.prog 127 19 [.tmp 4] L127 := ⟨Try.f127, Try.func127, by kernel_rfl, Try.ntmps127, by rw [Try.results127], by kernel_rfl⟩
def L128 : LCode :=
 (.seq
 (.ops [⟨(some 2), none, .box 179 (tm 0)⟩])
 (.seq
 (.ops [⟨(some 3), none, .alloc 105 [(.int .i64 0), (.int .i64 0), (.int .i64 0), (.int .i64 0), (.int .i64 0)]⟩])
 (.seq
 (.ops [⟨(some 4), none, .alloc 143 [.nilFunc]⟩])
 (.seq
 (.ops [⟨(some 5), none, .mkfn (.func 129) [] [(tm 1), (tm 2), (tm 3), (tm 4)]⟩,
 ⟨none, none, .store 143 (tm 4) (tm 5) 1⟩])
 (.ops [⟨(some 6), none, .load 143 (tm 4) none⟩,
 ⟨(some 7), none, .callv (tm 6) [(kc 0)] 4⟩])))))
theorem fn128 : FnOK Try.prog 128 8 [] L128 := ⟨Try.f128, Try.func128, by kernel_rfl, Try.ntmps128, by rw [Try.results128], by kernel_rfl⟩
def L129 : LCode :=
 (.seq
 (.ops [⟨(some 6), none, .mov (.const (.bool false))⟩])
 (.seq
 (.seq
 (.ops [⟨(some 8), none, .mov (tm 0)⟩,
 ⟨(some 9), none, .load 94 (tm 1) none⟩,
 ⟨(some 10), none, .nilck (tm 9)⟩,
 ⟨(some 11), none, .faddr 99 (tm 10) 1 2⟩,
 ⟨(some 12), none, .load 97 (tm 11) none⟩,
 ⟨(some 13), none, .len false 97 3 (tm 12)⟩,
 ⟨(some 14), none, .bin .eql 3 (tm 8) (tm 13)⟩])
 (.ite (tm 14)
 (.seq
 (.ops [⟨(some 15), none, .load 179 (tm 2) none⟩,
 ⟨(some 16), none, .load 105 (tm 3) (some 5)⟩,
 ⟨(some 17), none, .callv (tm 15) [(tm 16)] 4⟩,
 ⟨(some 6), none, .mov (tm 17)⟩])
 .ret)
 .skip))
 (.seq
 (.seq
 (.ops [⟨(some 18), none, .load 94 (tm 1) none⟩,
 ⟨(some 19), none, .nilck (tm 18)⟩,
 ⟨(some 20), none, .faddr 99 (tm 19) 1 2⟩,
 ⟨(some 21), none, .load 97 (tm 20) none⟩,
 ⟨(some 22), none, .mov (tm 0)⟩,
 ⟨(some 23), none, .iaddr 97 (tm 21) (tm 22) 2⟩,
 ⟨(some 24), none, .faddr 82 (tm 23) 0 0⟩,
 ⟨(some 25), none, .load 3 (tm 24) none⟩,
 ⟨(some 7), none, .mov (tm 25)⟩])
 (.block 0
 (.loop
 (.seq
 (.seq
 (.ops [⟨(some 26), none, .mov (tm 7)⟩,
 ⟨(some 27), none, .load 94 (tm 1) none⟩,
 ⟨(some 28), none, .nilck (tm 27)⟩,
 ⟨(some 29), none, .faddr 99 (tm 28) 1 2⟩,
 ⟨(some 30), none, .load 97 (tm 29) none⟩,
 ⟨(some 31), none, .mov (tm 0)⟩,
 ⟨(some 32), none, .iaddr 97 (tm 30) (tm 31) 2⟩,
 ⟨(some 33), none, .faddr 82 (tm 32) 1 1⟩,
 ⟨(some 34), none, .load 3 (tm 33) none⟩,
 ⟨(some 35), none, .bin .leq 3 (tm 26) (tm 34)⟩])
 (.ite (tm 35)
 .skip
 (.exit 0)))
 (.seq
 (.block 1
 (.seq
 (.ops [⟨(some 38), none, .mov (tm 0)⟩,
 ⟨(some 39), none, .mov (tm 7)⟩,
 ⟨(some 40), none, .iaddrA 105 (tm 3) (tm 38) 5 1⟩,
 ⟨none, none, .store 3 (tm 40) (tm 39) 1⟩])
 (.seq
 (.ops [⟨(some 41), none, .load 143 (tm 4) none⟩,
 ⟨(some 42), none, .mov (tm 0)⟩,
 ⟨(some 43), none, .bin .add 3 (tm 42) (kc 1)⟩,
 ⟨(some 44), none, .callv (tm 41) [(tm 43)] 4⟩,
 ⟨(some 45), none, .un .not (tm 44)⟩])
 (.ite (tm 45)
 (.seq
 (.ops [⟨(some 6), none, .mov (.const (.bool false))⟩])
 .ret)
 .skip))))
 (.ops [⟨(some 36), none, .mov (tm 7)⟩,
 ⟨(some 37), none, .bin .add 3 (tm 36) (kc 1)⟩,
 ⟨(some 7), none, .mov (tm 37)⟩]))))))
 (.seq
 (.ops [⟨(some 6), none, .mov (.const (.bool true))⟩])
 .ret))))
theorem fn129 : FnOK Try.prog 129 46 [.tmp 6] L129 := ⟨Try.f129, Try.func129, by kernel_rfl, Try.ntmps129, by rw [Try.results129], by kernel_rfl⟩
end Go.Px

namespace Go.Px
open Go.Proofs
theorem drop_cons {α : Type} {l : List α} {k : Nat} {x : α} (h : l[k]? = some x) : l.drop k = x :: l.drop (k + 1) := by
  obtain ⟨hk, rfl⟩ := List.getElem?_eq_some_iff.1 h
  exact List.drop_eq_getElem_cons hk
theorem drop_nil {α : Type} {l : List α} {k : Nat} (h : ¬ k < l.length) : l.drop k = [] := List.drop_eq_nil_of_le (by omega)
theorem ex_get {α : Type} {l : List α} {k : Nat} (h : k < l.length) : ∃ x, l[k]? = some x := ⟨l[k], by simp [h]⟩
def lessL : List Int → List Int → Bool
  | _, [] => false
  | [], _ :: _ => true
  | a :: x, b :: y => if a = b then lessL x y else decide (a < b)
theorem less_ev (a b : List Int) : Ev Try.prog 47 [ints a, ints b] (B (lessL a b)) := by
  refine Ev.intro fn47 ?_
  refine LWp.slLen 0 rfl fun ha => ?_
  refine LWp.slLen 1 rfl fun hb => ?_
  simp only [List.length_map] at ha hb
  refine LWp.sx (gs := []) (hs := []) rfl trivial ?_
  refine LWp.sx (gs := []) (hs := []) rfl trivial ?_
  refine LWp.blockX (fun k : Nat => k ≤ a.length ∧ k ≤ b.length ∧ lessL a b = lessL (a.drop k) (b.drop k) ∧ ∀ x y, a[k]? = some x → b[k]? = some y → x ≠ y) (fun k => el [(0, ints a), (1, ints b), (5, I k)]) (fun _ => []) (fun _ => []) ?_ ?_
  · refine LWp.loopN (fun k : Nat => k ≤ a.length ∧ k ≤ b.length ∧ lessL a b = lessL (a.drop k) (b.drop k)) (fun k => el [(0, ints a), (1, ints b), (5, I k)]) (fun _ => []) (fun _ => []) (fun k => a.length - k) 0 ⟨by omega, by omega, rfl⟩
      (Ent.el ⟨rfl, rfl, rfl, trivial⟩) ?_
    rintro k ⟨h1, h2, h3⟩
    by_cases ha' : k < a.length
    · by_cases hb' : k < b.length
      · have hx : a[k]? = some a[k] := by simp
        have hy : b[k]? = some b[k] := by simp
        refine LWp.seq (LWp.seq ?_)
        refine LWp.dd (gs := [(10, true), (16, true)]) (hs := [.cells [I a[k]], .cells [I b[k]]]) hmix rfl (by kernel_rfl) (by simp [ha', hb']) ?_
        refine LWp.ite rfl (fun hc => ?_) (fun hc => ?_)
        · simp only [beq_iff_eq] at hc
          refine LWp.skip ?_
          refine LWp.block ?_
          refine LWp.x (gs := []) (hs := []) rfl ⟨by omega, trivial⟩ ?_
          refine ⟨k + 1, ⟨by omega, by omega, ?_⟩, by omega, Ent.el ⟨rfl, rfl, rfl, trivial⟩⟩
          rw [h3, drop_cons hx, drop_cons hy, lessL, if_pos hc]
        · simp only [beq_eq_false_iff_ne, ne_eq] at hc
          refine LWp.exit ⟨k, ⟨h1, h2, h3, fun u v hu hv => ?_⟩, Ent.el ⟨rfl, rfl, rfl, trivial⟩⟩
          rw [hx] at hu; rw [hy] at hv; cases hu; cases hv; exact hc
      · refine LWp.seq (LWp.seq ?_)
        refine LWp.dd (gs := [(10, true), (16, false)]) (hs := []) hmix rfl (by kernel_rfl) (by simp [ha', hb']) ?_
        refine LWp.ite (b := false) rfl (fun hc => by cases hc) (fun hc => ?_)
        refine LWp.exit ⟨k, ⟨h1, h2, h3, fun u v hu hv => ?_⟩, Ent.el ⟨rfl, rfl, rfl, trivial⟩⟩
        exact absurd (List.getElem?_eq_some_iff.1 hv).1 hb'
    · refine LWp.seq (LWp.seq ?_)
      refine LWp.dd (gs := [(10, false), (16, false)]) (hs := []) hmix rfl (by kernel_rfl) (by simp [ha']) ?_
      refine LWp.ite (b := false) rfl (fun hc => by cases hc) (fun hc => ?_)
      refine LWp.exit ⟨k, ⟨h1, h2, h3, fun u v hu hv => ?_⟩, Ent.el ⟨rfl, rfl, rfl, trivial⟩⟩
      exact absurd (List.getElem?_eq_some_iff.1 hu).1 ha'
  · rintro k ⟨h1, h2, h3, h4⟩
    refine LWp.seq ?_
    refine LWp.sx (gs := []) (hs := []) rfl trivial ?_
    refine LWp.ite rfl (fun hc => ?_) (fun hc => ?_)
    · simp only [List.length_map, beq_iff_eq, Int.natCast_inj] at hc
      refine LWp.sx (gs := []) (hs := []) rfl trivial ?_
      refine LWp.ret (retT (.inr rfl) (.one (.tmp ?_ rfl)))
      show B _ = B _
      rw [h3, drop_nil (l := b) (by omega)]
      cases a.drop k <;> rfl
    · simp only [List.length_map, beq_eq_false_iff_ne, ne_eq, Int.natCast_inj] at hc
      have hb' : k < b.length := by omega
      obtain ⟨y, hy⟩ := ex_get hb'
      refine LWp.skip ?_
      by_cases ha' : k < a.length
      · obtain ⟨x, hx⟩ := ex_get ha'
        have hne : ¬ ((k : Int) = a.length) := by omega
        refine LWp.sd (gs := [(37, false)]) (hs := [.cells [I x], .cells [I y]]) hmix rfl (by kernel_rfl) (by simp [hne, hx, hy]) ?_
        refine LWp.ret (retT (.inr rfl) (.one (.tmp ?_ rfl)))
        show B _ = B _
        rw [h3, drop_cons hx, drop_cons hy, lessL, if_neg (h4 x y hx hy)]
      · have he : ((k : Int) = a.length) := by omega
        refine LWp.sd (gs := [(37, true)]) (hs := []) hmix rfl (by kernel_rfl) (by simp [he]) ?_
        refine LWp.ret (retT (.inr rfl) (.one (.tmp ?_ rfl)))
        show B _ = B _
        rw [h3, drop_nil ha', drop_cons hy]; rfl
def intsEq (a b : List Int) : Bool := decide (a.length = b.length) && (!lessL a b && !lessL b a)
theorem intsEq_iff : ∀ {a b : List Int}, intsEq a b = true ↔ a = b
  | [], [] => by simp [intsEq, lessL]
  | [], y :: b => by simp [intsEq]
  | x :: a, [] => by simp [intsEq]
  | x :: a, y :: b => by
    have ih := intsEq_iff (a := a) (b := b)
    simp only [intsEq, Bool.and_eq_true, decide_eq_true_eq, Bool.not_eq_true', List.length_cons, lessL] at ih ⊢
    by_cases h : x = y
    · subst h
      simp only [if_true, List.cons.injEq, true_and, Nat.add_right_cancel_iff]
      exact ⟨fun h => ih.1 ⟨by omega, h.2⟩, fun h => ⟨by rw [h], (ih.2 h).2⟩⟩
    · have h' : ¬ y = x := fun e => h e.symm
      simp only [h, h', if_false, decide_eq_false_iff_not, List.cons.injEq, false_and, iff_false]
      omega
theorem ints_ev (a b : List Int) : Ev Try.prog 24 [ints a, ints b] (B (intsEq a b)) := by
  refine Ev.intro fn24 ?_
  refine LWp.sx (gs := []) (hs := []) rfl trivial ?_
  by_cases h : a.length = b.length
  · cases h1 : lessL a b with
    | true =>
      refine LWp.sx (gs := [(10, true), (16, false)]) (hs := [.ret (B true)]) rfl (by simp [h, ← h1]; exact less_ev a b) ?_
      refine LWp.ret (retT (.inr rfl) (.one (.tmp ?_ rfl)))
      show B _ = B _
      simp [intsEq, h, h1]
    | false =>
      refine LWp.sx (gs := [(10, true), (16, true)]) (hs := [.ret (B false), .ret (B (lessL b a))]) rfl (by simp [h]; exact ⟨by rw [← h1]; exact less_ev a b, less_ev b a⟩) ?_
      refine LWp.ret (retT (.inr rfl) (.one (.tmp ?_ rfl)))
      show B _ = B _
      simp [intsEq, h, h1]
  · have h' : ¬ ((a.length : Int) = b.length) := by omega
    refine LWp.sx (gs := [(10, false), (16, false)]) (hs := []) rfl (by simp; exact h') ?_
    refine LWp.ret (retT (.inr rfl) (.one (.tmp ?_ rfl)))
    show B _ = B _
    simp [intsEq, h]
/-- The first place of one with a property; -1: there is none. -/
def idxF {α : Type} (p : α → Bool) : List α → Int → Int
  | [], _ => -1
  | x :: l, k => if p x = true then k else idxF p l (k + 1)
end Go.Px

namespace Go.Px
open Go.Proofs
structure Letter where
  c : Int
  s : Int
  q : Bool
  deriving DecidableEq
abbrev Str (l : List UInt8) : AV := .v (.string ⟨l.toArray⟩)
abbrev Letter.enc (x : Letter) : List AV := [U x.c, I x.s, B x.q]
structure Alph where
  name : List UInt8
  ls : List Letter
  deriving DecidableEq
abbrev letters (l : List Letter) : AV := .sl 3 (l.map Letter.enc)
abbrev Alph.enc (x : Alph) : List AV := [Str x.name, letters x.ls]
structure Spelling where
  a : Int
  t : List UInt8
  deriving DecidableEq
abbrev Spelling.enc (x : Spelling) : List AV := [I x.a, Str x.t]
structure Book where
  n : Int
  al : List Alph
  ss : List Spelling
  deriving DecidableEq
abbrev alphs (l : List Alph) : AV := .sl 2 (l.map Alph.enc)
abbrev spells (l : List Spelling) : AV := .sl 2 (l.map Spelling.enc)
abbrev Book.enc (b : Book) : List AV := [I b.n, alphs b.al, spells b.ss]
theorem indexI_ev (l : List Int) (g : Nat) (caps : List AV) (p : Int → Bool) (h : ∀ x ∈ l, Ev Try.prog g (I x :: caps) (B (p x))) : Ev Try.prog 125 [.sl 1 (l.map (fun x => [I x])), .fn (.func g) [] caps] (I (idxF p l 0)) := by
  refine Ev.intro fn125 ?_
  refine LWp.slLen 0 rfl fun ha => ?_
  simp only [List.length_map] at ha
  refine LWp.sx (gs := []) (hs := []) rfl trivial ?_
  refine LWp.seq ?_
  refine LWp.sx (gs := []) (hs := []) rfl trivial ?_
  refine LWp.blockT (fun _ : Unit => idxF p l 0 = -1) (fun _ => el []) (fun _ => []) (fun _ => []) ?_ ?_
  · refine LWp.loopN (fun k : Nat => k ≤ l.length ∧ idxF p l 0 = idxF p (l.drop k) k) (fun k => el [(0, .sl 1 (l.map (fun x => [I x]))), (1, .fn (.func g) [] caps), (7, I l.length), (8, I k)]) (fun _ => []) (fun _ => []) (fun k => l.length - k) 0 ⟨by omega, rfl⟩
      (Ent.el ⟨rfl, rfl, by show I _ = I _; simp, rfl, trivial⟩) ?_
    rintro k ⟨hk, hi⟩
    refine LWp.sx (gs := []) (hs := []) rfl trivial ?_
    refine LWp.seq (LWp.ite rfl (fun hc => ?_) (fun hc => ?_))
    · simp only [decide_eq_true_eq, Int.ofNat_lt] at hc
      obtain ⟨x, hx⟩ := ex_get hc
      rw [drop_cons hx, idxF] at hi
      refine LWp.skip (LWp.seq (LWp.block ?_))
      refine LWp.sx (gs := []) (hs := []) rfl trivial ?_
      refine LWp.seq ?_
      refine LWp.x (gs := []) (hs := [.cells ([I x]), .ret (B (p x))]) rfl ⟨⟨by omega, by simp [hx]⟩, h x (List.mem_of_getElem? hx), trivial⟩ ?_
      refine LWp.ite rfl (fun hb => ?_) (fun hb => ?_)
      · refine LWp.sx (gs := []) (hs := []) rfl trivial ?_
        refine LWp.ret (retT (.inr rfl) (.one (.tmp ?_ rfl)))
        show I _ = I _
        rw [hi, hb]; rfl
      · refine LWp.skip ?_
        refine LWp.x (gs := []) (hs := []) rfl ⟨by omega, trivial⟩ ?_
        exact ⟨k + 1, ⟨hc, by rw [hi, hb]; rfl⟩, by omega, Ent.el ⟨rfl, rfl, rfl, rfl, trivial⟩⟩
    · simp only [decide_eq_false_iff_not, Int.ofNat_lt] at hc
      refine LWp.exit ⟨(), ?_, Ent.el trivial⟩
      rw [hi, drop_nil hc]; rfl
  · intro _ h
    refine LWp.sx (gs := []) (hs := []) rfl trivial ?_
    refine LWp.ret (retT (.inr rfl) (.one (.tmp ?_ rfl)))
    rw [h]; rfl
theorem idxF_iff {α : Type} (p : α → Bool) : ∀ (l : List α) (k : Int), 0 ≤ k → (0 ≤ idxF p l k ↔ l.any p = true)
  | [], k, h => by simp [idxF]
  | x :: l, k, h => by
    have ih := idxF_iff p l (k + 1) (by omega)
    cases hp : p x with
    | true =>
      have : idxF p (x :: l) k = k := by simp only [idxF, hp, if_true]
      rw [this]; simp [hp, h]
    | false =>
      have : idxF p (x :: l) k = idxF p l (k + 1) := by simp only [idxF, hp, if_false, Bool.false_eq_true]
      rw [this, ih]; simp [hp]
theorem idxF_ge {α : Type} (p : α → Bool) (l : List α) (k : Int) (h : 0 ≤ k) : (decide (idxF p l k ≥ 0)) = l.any p :=
  Bool.eq_iff_iff.2 (by rw [decide_eq_true_iff]; exact idxF_iff p l k h)
theorem containsI_ev (l : List Int) (g : Nat) (caps : List AV) (p : Int → Bool) (h : ∀ x ∈ l, Ev Try.prog g (I x :: caps) (B (p x))) : Ev Try.prog 96 [.sl 1 (l.map (fun x => [I x])), .fn (.func g) [] caps] (B (l.any p)) := by
  refine Ev.intro fn96 ?_
  refine LWp.sx (gs := []) (hs := []) rfl trivial ?_
  refine LWp.sx (gs := []) (hs := [.ret (I (idxF p l 0))]) rfl ⟨indexI_ev l g caps p h, trivial⟩ ?_
  refine LWp.ret (retT (.inr rfl) (.one (.tmp ?_ rfl)))
  show B _ = B _
  rw [idxF_ge p l 0 (by omega)]
/-- The first error, and where. -/
def failF (f : Nat → Int) : Nat → Nat → Int × Int
  | 0, _ => (0, 0)
  | m + 1, k => if f k = 0 then failF f m (k + 1) else ((k : Int), f k)
theorem beyond1_ev (n lo hi : Int) : Ev Try.prog 126 [I n, .pi [I lo], .pi [I hi]] (B (decide (n < lo) || decide (n > hi))) := by
  refine Ev.intro fn126 ?_
  refine LWp.sx (gs := []) (hs := []) rfl trivial ?_
  by_cases h : n < lo
  · refine LWp.sx (gs := [(8, true)]) (hs := []) rfl (by simp [h]) ?_
    refine LWp.ret (retT (.inr rfl) (.one (.tmp ?_ rfl)))
    show B _ = B _
    simp [h]
  · refine LWp.sx (gs := [(8, false)]) (hs := []) rfl (by simp [h]) ?_
    refine LWp.ret (retT (.inr rfl) (.one (.tmp ?_ rfl)))
    show B _ = B _
    simp [h]
def beyondB (lo hi : Int) (l : List Int) : Bool := l.any fun n => decide (n < lo) || decide (n > hi)
theorem beyond_ev (lo hi : Int) (l : List Int) : Ev Try.prog 98 [I lo, I hi, ints l] (B (beyondB lo hi l)) := by
  refine Ev.intro fn98 ?_
  refine LWp.sx (gs := []) (hs := [.ice, .ice]) rfl ⟨⟨rfl, rfl⟩, ⟨rfl, rfl⟩, trivial⟩ ?_
  refine LWp.sx (gs := []) (hs := [.ret (B (beyondB lo hi l))]) rfl ⟨containsI_ev l _ _ _ (fun n _ => beyond1_ev n lo hi), trivial⟩ ?_
  refine LWp.ret (retT (.inr rfl) (.one (.tmp ?_ rfl)))
  rfl
end Go.Px

namespace Go.Px
open Go.Proofs
theorem decode_hi (s : ByteArray) (p : Nat) (h : 128 ≤ (s.get! p).toNat) : 128 ≤ (Utf8.decode s p).1 := by
  unfold Utf8.decode
  simp only [Nat.add_zero]
  rw [if_neg (by omega)]
  repeat' split
  all_goals simp_all [Utf8.runeError]
  all_goals omega
theorem decode_lo (s : ByteArray) (p : Nat) (h : (s.get! p).toNat < 128) : Utf8.decode s p = ((s.get! p).toNat, 1) := by
  unfold Utf8.decode
  simp only [Nat.add_zero]
  rw [if_pos (by omega)]
def okc (i : Nat) (c : Nat) : Bool := (decide (97 ≤ c) && decide (c ≤ 122)) || (decide (0 < i) && (c == 46 || (decide (48 ≤ c) && decide (c ≤ 57))))
def allN : List UInt8 → Nat → Bool
  | [], _ => true
  | c :: l, i => okc i c.toNat && allN l (i + 1)
def nameB (l : List UInt8) : Bool := allN l 0 && (decide (1 ≤ l.length) && decide (l.length ≤ 16))
theorem name_ev (l : List UInt8) (hl : l.length ≤ 9223372036854775807) : Ev Try.prog 58 [Str l] (B (nameB l)) := by
  refine Ev.intro fn58 ?_
  refine LWp.sx (gs := []) (hs := []) rfl trivial ?_
  refine LWp.seq (LWp.seq (LWp.ops ?_))
  refine WOps.x (gs := []) (hs := []) rfl trivial ?_
  refine WOps.cons (Op1.rangeS rfl (fun b => ?_))
  refine WOps.xd (gs := []) (hs := []) rfl trivial ?_
  refine LWp.blockT (fun _ : Unit => allN l 0 = true) (fun _ => el [(0, Str l)]) (fun _ => []) (fun _ => []) ?_ ?_
  · refine LWp.loopN (fun k : Nat => k ≤ l.length ∧ allN l 0 = allN (l.drop k) k) (fun k => el [(0, Str l), (7, .po b 0)]) (fun k => [(b, .raw (.stringIter ⟨l.toArray⟩ k))]) (fun _ => []) (fun k => l.length - k) 0 ⟨by omega, rfl⟩
      (Ent.el ⟨rfl, rfl, trivial⟩) ?_
    rintro k ⟨hk, hi⟩
    refine LWp.seq (LWp.ops (WOps.cons (Op1.nextS (i := 0) rfl rfl (fun hp => ?_) (fun hp => ?_))))
    · simp only [List.size_toArray, ByteArray.size] at hp
      obtain ⟨c, hc⟩ := ex_get hp
      have hg : (ByteArray.mk l.toArray).get! k = c := by
        have h2 := (List.getElem?_eq_some_iff.1 hc).2
        show l.toArray[k]! = c
        rw [getElem!_pos l.toArray k (by simpa using hp)]
        simpa using h2
      rw [drop_cons hc, allN] at hi
      have hwd : 128 ≤ c.toNat → 128 ≤ (Utf8.decode ⟨l.toArray⟩ k).1 := fun h => decode_hi _ _ (by rw [hg]; exact h)
      have hwl : c.toNat < 128 → Utf8.decode ⟨l.toArray⟩ k = (c.toNat, 1) := fun h => by rw [decode_lo _ _ (by rw [hg]; exact h), hg]
      generalize hde : Utf8.decode ⟨l.toArray⟩ k = de at hwd hwl
      obtain ⟨u, wd⟩ := de
      simp only at hwd
      refine WOps.xd (gs := []) (hs := []) rfl trivial ?_
      refine LWp.seq (LWp.ite (b := true) rfl (fun _ => LWp.skip ?_) (fun h => by cases h))
      refine LWp.block ?_
      refine LWp.sx (gs := []) (hs := []) rfl trivial ?_
      refine LWp.cutX (fun _ : Unit => True) (fun _ => el [(0, Str l), (7, .po b 0), (3, I k), (4, .v (.int .i32 u)), (5, B (decide (97 ≤ u) && decide (u ≤ 122)))]) (fun _ => [(b, .raw (.stringIter ⟨l.toArray⟩ (k + wd)))]) (fun _ => []) ?_ ?_
      · by_cases h1 : 97 ≤ u
        · refine LWp.x (gs := [(14, true)]) (hs := []) rfl (by simp; omega) ?_
          exact ⟨(), trivial, Ent.el ⟨rfl, rfl, rfl, rfl, by show B _ = B _; simp [h1]; omega, trivial⟩⟩
        · refine LWp.x (gs := [(14, false)]) (hs := []) rfl (by simp; omega) ?_
          exact ⟨(), trivial, Ent.el ⟨rfl, rfl, rfl, rfl, by show B _ = B _; simp [h1], trivial⟩⟩
      intro _ _
      refine LWp.cutX (fun _ : Unit => True) (fun _ => el [(0, Str l), (7, .po b 0), (35, B (!okc k u))]) (fun _ => [(b, .raw (.stringIter ⟨l.toArray⟩ (k + wd)))]) (fun _ => []) ?_ ?_
      · cases hlt : (decide (97 ≤ u) && decide (u ≤ 122)) with
        | true =>
          refine LWp.x (gs := [(20, false)]) (hs := []) rfl (by simp) ?_
          exact ⟨(), trivial, Ent.el ⟨rfl, rfl, by show B _ = B _; simp [okc, hlt], trivial⟩⟩
        | false =>
          by_cases h0 : k = 0
          · refine LWp.x (gs := [(20, true), (23, true)]) (hs := []) rfl (by simp [h0]) ?_
            exact ⟨(), trivial, Ent.el ⟨rfl, rfl, by show B _ = B _; simp [okc, hlt, h0], trivial⟩⟩
          · by_cases h1 : u = 46
            · refine LWp.x (gs := [(20, true), (23, false), (26, false)]) (hs := []) rfl (by simp [h0, h1]) ?_
              exact ⟨(), trivial, Ent.el ⟨rfl, rfl, by show B _ = B _; simp [okc, h1]; omega, trivial⟩⟩
            · by_cases h2 : u < 48
              · refine LWp.x (gs := [(20, true), (23, false), (26, true), (29, true)]) (hs := []) rfl (by simp [h0]; omega) ?_
                exact ⟨(), trivial, Ent.el ⟨rfl, rfl, by show B _ = B _; simp [okc, hlt, h1]; omega, trivial⟩⟩
              · refine LWp.x (gs := [(20, true), (23, false), (26, true), (29, false)]) (hs := []) rfl (by simp [h0]; omega) ?_
                have e : decide ((u : Int) > 57) = !okc k u := by
                  rw [Bool.eq_iff_iff]; simp [okc, hlt, h1]; omega
                exact ⟨(), trivial, Ent.el ⟨rfl, rfl, by rw [← e]; rfl, trivial⟩⟩
      intro _ _
      refine LWp.ite rfl (fun hb => ?_) (fun hb => ?_)
      · simp only [Bool.not_eq_true'] at hb
        refine LWp.sx (gs := []) (hs := []) rfl trivial ?_
        refine LWp.ret (retT (.inr rfl) (.one (.tmp ?_ rfl)))
        show B _ = B _
        have : okc k c.toNat = false := by
          by_cases hlt : c.toNat < 128
          · have := hwl hlt; cases this; exact hb
          · have := hwd (by omega)
            simp [okc]; omega
        simp [nameB, hi, this]
      · simp only [Bool.not_eq_false'] at hb
        have hu : u < 128 := by
          simp only [okc, Bool.or_eq_true, Bool.and_eq_true, decide_eq_true_eq, beq_iff_eq] at hb
          omega
        have hlt : c.toNat < 128 := by
          rcases Nat.lt_or_ge c.toNat 128 with h | h
          · exact h
          · have := hwd h; omega
        have := hwl hlt
        cases this
        refine LWp.skip ⟨k + 1, ⟨hp, by rw [hi, hb, Bool.true_and]⟩, by omega, Ent.el ⟨rfl, rfl, trivial⟩⟩
    · simp only [List.size_toArray, ByteArray.size] at hp
      refine WOps.xd (gs := []) (hs := []) rfl trivial ?_
      refine LWp.seq (LWp.ite (b := false) rfl (fun h => by cases h) (fun _ => LWp.exit ⟨(), ?_, ?_⟩))
      · rw [hi, drop_nil hp]; rfl
      · exact Ent.trans (Ent.dropH 0) (Ent.el ⟨rfl, trivial⟩)
  · intro _ h
    refine LWp.sx (gs := []) (hs := [.ice, .ret (B (beyondB 1 16 [(l.length : Int)]))]) rfl ⟨rfl, beyond_ev 1 16 [(l.length : Int)], trivial⟩ ?_
    refine LWp.ret (retT (.inr rfl) (.one (.tmp ?_ rfl)))
    have : (!beyondB 1 16 [(l.length : Int)]) = nameB l := by
      rw [Bool.eq_iff_iff]; simp [nameB, h, beyondB]; omega
    rw [← this]; rfl
end Go.Px

namespace Go.Px
open Go.Proofs
abbrev strs (l : List (List UInt8)) : AV := .sl 1 (l.map fun s => [Str s])
end Go.Px

namespace Go.Px
abbrev Wd := List UInt8
/-- A word can stand where a shape has one; the empty one stands for any word. -/
def fitB (s w : Wd) : Bool := decide (s = []) || decide (s = w)
def farRow (f : List Wd → Nat) (w : Wd) : List Wd → Nat
  | [] => f [] + 1
  | s :: ss => if fitB s w = true then min (f ss) (min (1 + f (s :: ss)) (1 + farRow f w ss)) else min (1 + f ss) (min (1 + f (s :: ss)) (1 + farRow f w ss))
/-- The fewest corrections by which a letter becomes one of a shape. -/
def far : List Wd → List Wd → Nat
  | [], ss => ss.length
  | w :: ws, ss => farRow (far ws) w ss
theorem far_nil (ws : List Wd) : far ws [] = ws.length := by
  induction ws with
  | nil => rfl
  | cons w ws ih => simp only [far, farRow, ih, List.length_cons]
theorem far_cons (w : Wd) (ws : List Wd) (s : Wd) (ss : List Wd) : far (w :: ws) (s :: ss) = if fitB s w = true then min (far ws ss) (min (1 + far ws (s :: ss)) (1 + far (w :: ws) ss)) else min (1 + far ws ss) (min (1 + far ws (s :: ss)) (1 + far (w :: ws) ss)) := rfl
/-- Marks that make a letter one of a shape, with so many corrections. -/
inductive Scr : List Wd → List Wd → Nat → Prop
  | nil : Scr [] [] 0
  | keep {w s ws ss n} : fitB s w = true → Scr ws ss n → Scr (w :: ws) (s :: ss) n
  | turn {w s ws ss n} : Scr ws ss n → Scr (w :: ws) (s :: ss) (n + 1)
  | drop {w ws ss n} : Scr ws ss n → Scr (w :: ws) ss (n + 1)
  | put {s ws ss n} : Scr ws ss n → Scr ws (s :: ss) (n + 1)
theorem far_drop (w : Wd) (ws ss : List Wd) : far (w :: ws) ss ≤ far ws ss + 1 := by
  cases ss with
  | nil => simp [far_nil]
  | cons s ss => rw [far_cons]; split <;> omega
/-- A letter of words, none empty. -/
def NE (l : List Wd) : Prop := ∀ w ∈ l, w ≠ []
theorem NE.tail {w : Wd} {l : List Wd} (h : NE (w :: l)) : NE l := fun x hx => h x (List.mem_cons_of_mem _ hx)
/-- A letter is of a shape. -/
def fitL : List Wd → List Wd → Bool
  | [], [] => true
  | s :: ss, w :: ws => fitB s w && fitL ss ws
  | _, _ => false
theorem fitL_len : ∀ {ss ws : List Wd}, fitL ss ws = true → ss.length = ws.length
  | [], [], _ => rfl
  | _ :: ss, _ :: ws, h => by
    simp only [fitL, Bool.and_eq_true] at h
    simp [fitL_len h.2]
/-- What the first mark of the fewest corrections is: 0 keep, 1 turn, 2 drop, 3 put, 4 none. -/
def kindF : List Wd → List Wd → Nat
  | [], [] => 4
  | [], _ :: _ => 3
  | _ :: _, [] => 2
  | w :: ws, s :: ss =>
    if fitB s w = true then (if far ws ss ≤ 1 + far ws (s :: ss) ∧ far ws ss ≤ 1 + far (w :: ws) ss then 0 else if far ws (s :: ss) ≤ far (w :: ws) ss then 2 else 3)
    else (if far ws ss ≤ far ws (s :: ss) ∧ far ws ss ≤ far (w :: ws) ss then 1 else if far ws (s :: ss) ≤ far (w :: ws) ss then 2 else 3)
end Go.Px

namespace Go.Px
def wordB (s : Wd) : Bool := (decide (1 ≤ s.length) && decide (s.length ≤ 8)) && s.all fun c => decide (97 ≤ c.toNat) && decide (c.toNat ≤ 122)
def wordsB (l : List Wd) : Bool := l.all wordB
def letterE (l : List Wd) : Int := if 15 < l.length then 3 else if wordsB l = true then 0 else 6
theorem word_ne {w : Wd} (h : wordB w = true) : w ≠ [] := by
  rintro rfl
  simp [wordB] at h
theorem letter_zero {l : List Wd} : letterE l = 0 ↔ l.length ≤ 15 ∧ wordsB l = true := by
  unfold letterE
  by_cases h : 15 < l.length
  · rw [if_pos h]; simp; omega
  · rw [if_neg h]
    by_cases g : wordsB l = true
    · rw [if_pos g]; simp [g]; omega
    · rw [if_neg g]; simp [g]
structure Mark where
  k : Int
  w : Wd
  deriving DecidableEq
def markE (m : Mark) (left : List Wd) : Int :=
  if ¬ (0 ≤ m.k ∧ m.k ≤ 3) then 7
  else if (if m.k = 1 ∨ m.k = 3 then wordB m.w = false else m.w ≠ []) then 6
  else if m.k = 3 then 0
  else match left with
    | [] => 4
    | x :: _ => if m.k = 1 ∧ m.w = x then 5 else 0
def markO (m : Mark) (left : List Wd) : List Wd := if m.k = 0 then left.take 1 else if m.k = 2 then [] else [m.w]
def markL (m : Mark) (left : List Wd) : List Wd := if m.k = 3 then left else left.tail
def applyG : List Mark → List Wd → List Wd → List Wd × Int
  | [], left, out => if left ≠ [] then ([], 2) else if 15 < out.length then ([], 3) else (out, 0)
  | m :: ms, left, out => if markE m left = 0 then applyG ms (markL m left) (out ++ markO m left) else ([], markE m left)
def applyR (l : List Wd) (ms : List Mark) : List Wd × Int := if letterE l = 0 then (if 30 < ms.length then ([], 3) else applyG ms l []) else ([], letterE l)
/-- Marks make one letter of another one. -/
inductive Ap : List Mark → List Wd → List Wd → Prop
  | nil : Ap [] [] []
  | keep {ms w ws out} : Ap ms ws out → Ap (⟨0, []⟩ :: ms) (w :: ws) (w :: out)
  | turn {ms w ws v out} : wordB v = true → v ≠ w → Ap ms ws out → Ap (⟨1, v⟩ :: ms) (w :: ws) (v :: out)
  | drop {ms w ws out} : Ap ms ws out → Ap (⟨2, []⟩ :: ms) (w :: ws) out
  | put {ms ws v out} : wordB v = true → Ap ms ws out → Ap (⟨3, v⟩ :: ms) ws (v :: out)
/-- The marks with the fewest corrections, the first ones. -/
def marksF : Nat → List Wd → List Wd → List Mark
  | 0, _, _ => []
  | f + 1, ws, ss =>
    if kindF ws ss = 0 then ⟨0, []⟩ :: marksF f ws.tail ss.tail
    else if kindF ws ss = 1 then ⟨1, ss.headD []⟩ :: marksF f ws.tail ss.tail
    else if kindF ws ss = 2 then ⟨2, []⟩ :: marksF f ws.tail ss
    else if kindF ws ss = 3 then ⟨3, ss.headD []⟩ :: marksF f ws ss.tail
    else []
/-- What Fewest returns. -/
def fewestE (a b : List Wd) : Int := if letterE a = 0 then letterE b else letterE a
def fewestR (a b : List Wd) : List Mark × Int × Int := if fewestE a b = 0 then (marksF (a.length + b.length) a b, (far a b : Nat), 0) else ([], 0, fewestE a b)
theorem fewestE_zero {a b : List Wd} : fewestE a b = 0 ↔ letterE a = 0 ∧ letterE b = 0 := by
  unfold fewestE
  by_cases h : letterE a = 0
  · rw [if_pos h]; simp [h]
  · rw [if_neg h]; simp [h]
end Go.Px

namespace Go.Px
structure Part where
  words : List Wd
  lo : Int
  hi : Int
  deriving DecidableEq
structure Form where
  name : Wd
  parts : List Part
  deriving DecidableEq
structure Shelf where
  w : Int
  forms : List Form
  deriving DecidableEq
def Part.roomy (p : Part) : Bool := decide (p.words = [])
def roomsL (ps : List Part) : List (Int × Int) := (ps.filter Part.roomy).map fun p => (p.lo, p.hi)
/-- All numbers from one to another one. -/
def upto (lo hi : Int) : List Nat := (List.range (hi + 1 - lo).toNat).map fun k => lo.toNat + k
/-- All that can be in rooms, in order. -/
def cnts : List (Int × Int) → List (List Nat)
  | [] => [[]]
  | r :: rs => (upto r.1 r.2).flatMap fun n => (cnts rs).map (n :: ·)
/-- What is so many times the empty word. -/
def blanks (n : Nat) : List Wd := List.replicate n []
def shapeF : List Part → List Nat → List Wd
  | [], _ => []
  | p :: ps, ms => if p.roomy = true then blanks (ms.headD 0) ++ shapeF ps ms.tail else p.words ++ shapeF ps ms
def builtF : List Part → List (List Wd) → List Wd
  | [], _ => []
  | p :: ps, fs => if p.roomy = true then fs.headD [] ++ builtF ps fs.tail else p.words ++ builtF ps fs
/-- What a letter has in the rooms. -/
def filledF : List Part → List Nat → List Wd → List (List Wd)
  | [], _, _ => []
  | p :: ps, ms, l => if p.roomy = true then l.take (ms.headD 0) :: filledF ps ms.tail (l.drop (ms.headD 0)) else filledF ps ms (l.drop p.words.length)
def waysF (ps : List Part) (l : List Wd) : List (List Nat) := (cnts (roomsL ps)).filter fun m => fitL (shapeF ps m) l
def minN : List Nat → Nat
  | [] => 0
  | [a] => a
  | a :: b :: l => min a (minN (b :: l))
def mendsF (ps : List Part) (l : List Wd) : Nat := minN ((cnts (roomsL ps)).map fun m => far l (shapeF ps m))
theorem upto_mem {lo hi : Int} (h : 0 ≤ lo) {n : Nat} : n ∈ upto lo hi ↔ lo ≤ n ∧ (n : Int) ≤ hi := by
  unfold upto
  simp only [List.mem_map, List.mem_range]
  constructor
  · rintro ⟨k, hk, rfl⟩; omega
  · rintro ⟨h1, h2⟩; exact ⟨n - lo.toNat, by omega, by omega⟩
theorem upto_sorted (lo hi : Int) : (upto lo hi).Pairwise (· < ·) := by
  unfold upto
  rw [List.pairwise_map]
  exact List.Pairwise.imp (fun h => by omega) List.pairwise_lt_range
/-- Numbers of words that rooms can have. -/
def InR : List (Int × Int) → List Nat → Prop
  | [], [] => True
  | r :: rs, m :: ms => (r.1 ≤ m ∧ (m : Int) ≤ r.2) ∧ InR rs ms
  | _, _ => False
def RNN (rs : List (Int × Int)) : Prop := ∀ r ∈ rs, 0 ≤ r.1
theorem cnts_iff : ∀ {rs : List (Int × Int)} {ms : List Nat}, RNN rs → (ms ∈ cnts rs ↔ InR rs ms)
  | [], ms, _ => by
    simp only [cnts, List.mem_singleton]
    cases ms <;> simp [InR]
  | r :: rs, ms, h => by
    have hr := h r (by simp)
    have ih := fun ms => cnts_iff (rs := rs) (ms := ms) (fun x hx => h x (by simp [hx]))
    simp only [cnts, List.mem_flatMap, List.mem_map]
    constructor
    · rintro ⟨n, hn, m, hm, rfl⟩
      exact ⟨(upto_mem hr).1 hn, (ih m).1 hm⟩
    · intro hm
      cases ms with
      | nil => exact hm.elim
      | cons m ms => exact ⟨m, (upto_mem hr).2 hm.1, ms, (ih ms).2 hm.2, rfl⟩
def lessM : List Nat → List Nat → Bool
  | _, [] => false
  | [], _ :: _ => true
  | a :: x, b :: y => if a = b then lessM x y else decide (a < b)
theorem cnts_len : ∀ {rs : List (Int × Int)} {ms : List Nat}, ms ∈ cnts rs → ms.length = rs.length
  | [], ms, h => by simp only [cnts, List.mem_singleton] at h; subst h; rfl
  | r :: rs, ms, h => by
    simp only [cnts, List.mem_flatMap, List.mem_map] at h
    obtain ⟨n, _, m, hm, rfl⟩ := h
    simp [cnts_len hm]
theorem cnts_sorted : ∀ rs : List (Int × Int), (cnts rs).Pairwise (fun a b => lessM a b = true)
  | [] => by simp [cnts]
  | r :: rs => by
    have ih := cnts_sorted rs
    simp only [cnts]
    rw [List.pairwise_flatMap]
    refine ⟨?_, ?_⟩
    · intro n _
      rw [List.pairwise_map]
      exact List.Pairwise.imp (fun h => by simp only [lessM, if_true]; exact h) ih
    · refine List.Pairwise.imp ?_ (upto_sorted r.1 r.2)
      intro a b hab x hx y hy
      obtain ⟨x', _, rfl⟩ := List.mem_map.1 hx
      obtain ⟨y', _, rfl⟩ := List.mem_map.1 hy
      simp only [lessM]
      rw [if_neg (by omega), decide_eq_true_iff]; exact hab
theorem lessM_irrefl : ∀ a : List Nat, lessM a a = false
  | [] => rfl
  | x :: a => by simp [lessM, lessM_irrefl a]
theorem cnts_nodup (rs : List (Int × Int)) : (cnts rs).Nodup := List.Pairwise.imp (fun {a b} h e => by rw [e, lessM_irrefl] at h; cases h) (cnts_sorted rs)
theorem cnts_ne : ∀ {rs : List (Int × Int)}, (∀ r ∈ rs, 0 ≤ r.1 ∧ r.1 ≤ r.2) → cnts rs ≠ []
  | [], _ => by simp [cnts]
  | r :: rs, h => by
    obtain ⟨h1, h2⟩ := h r (by simp)
    have ih := cnts_ne (rs := rs) (fun x hx => h x (by simp [hx]))
    obtain ⟨m, hm⟩ := List.exists_mem_of_ne_nil _ ih
    have : r.1.toNat :: m ∈ cnts (r :: rs) := by
      simp only [cnts, List.mem_flatMap, List.mem_map]
      exact ⟨r.1.toNat, (upto_mem h1).2 ⟨by omega, by omega⟩, m, hm, rfl⟩
    exact List.ne_nil_of_mem this
theorem cnts_size : ∀ {rs : List (Int × Int)}, (∀ r ∈ rs, 0 ≤ r.1 ∧ r.2 ≤ 3) → (cnts rs).length ≤ 4 ^ rs.length
  | [], _ => by simp [cnts]
  | r :: rs, h => by
    obtain ⟨h1, h2⟩ := h r (by simp)
    have ih := cnts_size (rs := rs) (fun x hx => h x (by simp [hx]))
    simp only [cnts, List.length_flatMap, List.length_map, List.map_const', List.sum_replicate_nat, List.length_cons]
    have : (upto r.1 r.2).length ≤ 4 := by simp [upto]; omega
    rw [Nat.pow_succ, Nat.mul_comm (4 ^ rs.length)]
    exact Nat.mul_le_mul this ih
theorem roomsL_cons (p : Part) (ps : List Part) : roomsL (p :: ps) = if p.roomy = true then (p.lo, p.hi) :: roomsL ps else roomsL ps := by
  unfold roomsL
  by_cases h : p.roomy = true
  · rw [List.filter_cons_of_pos h, if_pos h]; rfl
  · rw [List.filter_cons_of_neg h, if_neg h]
end Go.Px

namespace Go.Px
def textG (w : Nat) : Nat → List Wd → List UInt8
  | _, [] => [10]
  | n, s :: l => if n + 1 + s.length ≤ w then 32 :: (s ++ textG w (n + 1 + s.length) l) else 10 :: (s ++ textG w s.length l)
def textF (w : Nat) : List Wd → List UInt8
  | [] => []
  | s :: l => s ++ textG w s.length l
def splitF (c : UInt8) : List UInt8 → List (List UInt8)
  | [] => [[]]
  | x :: l => if x = c then [] :: splitF c l else match splitF c l with
    | [] => [[x]]
    | w :: ws => (x :: w) :: ws
def sepB (x : UInt8) : Bool := decide (x = 32) || decide (x = 10)
def fieldsG : List UInt8 → List UInt8 → List (List UInt8)
  | [], cur => if cur = [] then [] else [cur]
  | x :: l, cur => if sepB x = true then (if cur = [] then fieldsG l [] else cur :: fieldsG l []) else fieldsG l (cur ++ [x])
abbrev fieldsF (t : List UInt8) : List Wd := fieldsG t []
/-- No separators. -/
def NS (s : List UInt8) : Prop := ∀ x ∈ s, sepB x = false
theorem fieldsG_ns : ∀ {s : List UInt8} {t cur : List UInt8}, NS s → fieldsG (s ++ t) cur = fieldsG t (cur ++ s)
  | [], t, cur, _ => by simp
  | x :: s, t, cur, h => by
    simp only [List.cons_append, fieldsG]
    rw [if_neg (by simp [h x (by simp)]), fieldsG_ns (fun y hy => h y (by simp [hy]))]
    simp
/-- What is read of a text. -/
def readB (w : Nat) (t : List UInt8) (l : List Wd) : Bool := decide (letterE l = 0) && decide (textF w l = t)
theorem textG_len (w : Nat) : ∀ (l : List Wd) (n : Nat), wordsB l = true → (textG w n l).length ≤ 9 * l.length + 1
  | [], n, _ => by simp [textG]
  | s :: l, n, h => by
    simp only [wordsB, List.all_cons, Bool.and_eq_true] at h
    have hl : s.length ≤ 8 := by
      have := h.1
      simp only [wordB, Bool.and_eq_true, decide_eq_true_eq] at this
      exact this.1.2
    simp only [textG]
    split
    · have := textG_len w l (n + 1 + s.length) h.2
      simp; omega
    · have := textG_len w l s.length h.2
      simp; omega
theorem text_len (w : Nat) {l : List Wd} (h : letterE l = 0) : (textF w l).length ≤ 160 := by
  obtain ⟨h1, h2⟩ := letter_zero.1 h
  cases l with
  | nil => simp [textF]
  | cons s l =>
    simp only [wordsB, List.all_cons, Bool.and_eq_true] at h2
    have hl : s.length ≤ 8 := by
      have := h2.1
      simp only [wordB, Bool.and_eq_true, decide_eq_true_eq] at this
      exact this.1.2
    have := textG_len w l s.length h2.2
    simp [textF] at h1 ⊢; omega
end Go.Px

namespace Go.Px
/-- A valid part. -/
structure PartV (p : Part) : Prop where
  w3 : p.words.length ≤ 3
  ok : wordsB p.words = true
  room : (p.words ≠ [] ∧ p.lo = 0 ∧ p.hi = 0) ∨ (p.words = [] ∧ 0 ≤ p.lo ∧ p.lo ≤ p.hi ∧ 1 ≤ p.hi ∧ p.hi ≤ 3)
structure FormV (f : Form) : Prop where
  p5 : f.parts.length ≤ 5
  parts : ∀ p ∈ f.parts, PartV p
theorem roomsL_mem {ps : List Part} {r : Int × Int} (h : r ∈ roomsL ps) : ∃ p ∈ ps, p.words = [] ∧ r = (p.lo, p.hi) := by
  unfold roomsL at h
  obtain ⟨p, hp, rfl⟩ := List.mem_map.1 h
  obtain ⟨h1, h2⟩ := List.mem_filter.1 hp
  exact ⟨p, h1, by simpa [Part.roomy] using h2, rfl⟩
theorem rooms_ok {ps : List Part} (h : ∀ p ∈ ps, PartV p) : ∀ r ∈ roomsL ps, 0 ≤ r.1 ∧ r.1 ≤ r.2 ∧ 1 ≤ r.2 ∧ r.2 ≤ 3 := by
  intro r hr
  obtain ⟨p, hp, hw, rfl⟩ := roomsL_mem hr
  rcases (h p hp).room with ⟨g, _⟩ | ⟨_, g⟩
  · exact absurd hw g
  · exact g
theorem rooms_len (ps : List Part) : (roomsL ps).length ≤ ps.length := by
  unfold roomsL
  rw [List.length_map]
  exact List.length_filter_le _ _
theorem form_cnts_ne {ps : List Part} (h : ∀ p ∈ ps, PartV p) : cnts (roomsL ps) ≠ [] := cnts_ne fun r hr => ⟨(rooms_ok h r hr).1, (rooms_ok h r hr).2.1⟩
/-- A form with more room. -/
inductive Wider : List Part → List Part → Prop
  | nil : Wider [] []
  | same {p ps qs} : Wider ps qs → Wider (p :: ps) (p :: qs)
  | more {p q ps qs} : p.words = [] → q.words = [] → q.lo ≤ p.lo → p.hi ≤ q.hi → 0 ≤ q.lo → Wider ps qs → Wider (p :: ps) (q :: qs)
end Go.Px

namespace Go.Px
open Go.Proofs
def partE (p : Part) : Int :=
  if 3 < p.words.length then 3
  else if wordsB p.words = true then
    (if p.words ≠ [] then (if p.lo = 0 ∧ p.hi = 0 then 0 else 2) else if (beyondB 0 3 [p.lo, p.hi] || decide (p.hi = 0)) = true then 7 else if p.hi < p.lo then 2 else 0)
  else 6
def partsE (ps : List Part) (k : Nat) : Int := match ps[k]? with | none => 0 | some p => partE p
def formE (fs : List Form) (i : Nat) : Int := match fs[i]? with
  | none => 0
  | some f => if nameB f.name = true then (if (fs.take i).any (fun x => x.name == f.name) = true then 5 else if 5 < f.parts.length then 3 else (failF (partsE f.parts) f.parts.length 0).2) else 6
/-- What Check returns. -/
def checkS (s : Shelf) : Int × Int × Int :=
  if beyondB 8 30 [s.w] = true then (1, 0, 7)
  else if 4 < s.forms.length then (2, 0, 3)
  else if (failF (formE s.forms) s.forms.length 0).2 = 0 then (0, 0, 0) else (2, (failF (formE s.forms) s.forms.length 0).1, (failF (formE s.forms) s.forms.length 0).2)
structure ShelfV (s : Shelf) : Prop where
  w8 : 8 ≤ s.w
  w30 : s.w ≤ 30
  f4 : s.forms.length ≤ 4
  forms : ∀ f ∈ s.forms, nameB f.name = true ∧ FormV f
  names : (s.forms.map (·.name)).Nodup
theorem partE_iff {p : Part} : partE p = 0 ↔ PartV p := by
  unfold partE
  by_cases h1 : 3 < p.words.length
  · rw [if_pos h1]
    exact ⟨fun h => (by cases h), fun h => absurd h.w3 (by omega)⟩
  rw [if_neg h1]
  by_cases h2 : wordsB p.words = true
  case neg =>
    rw [if_neg h2]
    exact ⟨fun h => (by cases h), fun h => absurd h.ok h2⟩
  rw [if_pos h2]
  by_cases h3 : p.words ≠ []
  · rw [if_pos h3]
    by_cases h4 : p.lo = 0 ∧ p.hi = 0
    · rw [if_pos h4]
      exact ⟨fun _ => ⟨by omega, h2, .inl ⟨h3, h4.1, h4.2⟩⟩, fun _ => rfl⟩
    · rw [if_neg h4]
      refine ⟨fun h => (by cases h), fun h => ?_⟩
      rcases h.room with ⟨_, h5⟩ | ⟨h5, _⟩
      · exact absurd h5 h4
      · exact absurd h5 h3
  · rw [if_neg h3]
    have h3' : p.words = [] := Classical.not_not.1 h3
    by_cases h4 : (beyondB 0 3 [p.lo, p.hi] || decide (p.hi = 0)) = true
    · rw [if_pos h4]
      refine ⟨fun h => (by cases h), fun h => ?_⟩
      rcases h.room with ⟨h5, _⟩ | ⟨_, h5⟩
      · exact absurd h3' h5
      · exfalso
        simp [beyondB] at h4
        omega
    · rw [if_neg h4]
      have h4' : 0 ≤ p.lo ∧ p.lo ≤ 3 ∧ 0 ≤ p.hi ∧ p.hi ≤ 3 ∧ p.hi ≠ 0 := by
        simp [beyondB] at h4
        omega
      by_cases h6 : p.hi < p.lo
      · rw [if_pos h6]
        refine ⟨fun h => (by cases h), fun h => ?_⟩
        rcases h.room with ⟨h5, _⟩ | ⟨_, h5⟩
        · exact absurd h3' h5
        · omega
      · rw [if_neg h6]
        exact ⟨fun _ => ⟨by omega, h2, .inr ⟨h3', by omega, by omega, by omega, by omega⟩⟩, fun _ => rfl⟩
theorem failF_zero {f : Nat → Int} : ∀ {m k : Nat}, (failF f m k).2 = 0 → ∀ j, k ≤ j → j < k + m → f j = 0
  | 0, k, _, j, h1, h2 => by omega
  | m + 1, k, h, j, h1, h2 => by
    simp only [failF] at h
    by_cases hf : f k = 0
    · rw [if_pos hf] at h
      by_cases e : j = k
      · subst e; exact hf
      · exact failF_zero h j (by omega) (by omega)
    · rw [if_neg hf] at h
      exact absurd h hf
theorem failF_zero' {f : Nat → Int} : ∀ {m k : Nat}, (∀ j, k ≤ j → j < k + m → f j = 0) → (failF f m k).2 = 0
  | 0, k, _ => rfl
  | m + 1, k, h => by
    simp only [failF]
    rw [if_pos (h k (by omega) (by omega))]
    exact failF_zero' (fun j h1 h2 => h j (by omega) (by omega))
theorem failF_iff {f : Nat → Int} {m : Nat} : (failF f m 0).2 = 0 ↔ ∀ j, j < m → f j = 0 :=
  ⟨fun h j hj => failF_zero h j (by omega) (by omega), fun h => failF_zero' (fun j _ hj => h j (by omega))⟩
theorem nodup_iff_take {α β : Type} [DecidableEq β] (f : α → β) (l : List α) : (l.map f).Nodup ↔ ∀ (i : Nat) (x : α), l[i]? = some x → ∀ y ∈ l.take i, f y ≠ f x := by
  constructor
  · intro h i x hx y hy e
    obtain ⟨j, hj⟩ := List.mem_iff_getElem?.1 hy
    rw [List.getElem?_take] at hj
    split at hj
    · rename_i hji
      have h1 : (l.map f)[j]? = some (f x) := by rw [List.getElem?_map, hj]; simp [e]
      have h2 : (l.map f)[i]? = some (f x) := by rw [List.getElem?_map, hx]; rfl
      obtain ⟨a1, a2⟩ := List.getElem?_eq_some_iff.1 h1
      obtain ⟨b1, b2⟩ := List.getElem?_eq_some_iff.1 h2
      have := (List.getElem_inj h).1 (a2.trans b2.symm)
      omega
    · cases hj
  · intro h
    rw [List.Nodup, List.pairwise_iff_getElem]
    intro i j hi hj hij e
    simp only [List.length_map] at hi hj
    simp only [List.getElem_map] at e
    refine h j l[j] (by simp) l[i] ?_ e
    rw [List.mem_iff_getElem?]
    exact ⟨i, by rw [List.getElem?_take, if_pos hij]; simp⟩
theorem partsE_iff {ps : List Part} : (failF (partsE ps) ps.length 0).2 = 0 ↔ ∀ p ∈ ps, PartV p := by
  rw [failF_iff]
  constructor
  · intro h p hp
    obtain ⟨j, hj⟩ := List.mem_iff_getElem?.1 hp
    have := h j (List.getElem?_eq_some_iff.1 hj).1
    unfold partsE at this
    rw [hj] at this
    exact partE_iff.1 this
  · intro h j hj
    unfold partsE
    have hx : ps[j]? = some ps[j] := by simp
    rw [hx]
    exact partE_iff.2 (h _ (List.mem_of_getElem? hx))
theorem formE_iff {fs : List Form} {i : Nat} {f : Form} (hf : fs[i]? = some f) : formE fs i = 0 ↔ (nameB f.name = true ∧ FormV f) ∧ ∀ y ∈ fs.take i, y.name ≠ f.name := by
  simp only [formE, hf]
  by_cases h1 : nameB f.name = true
  case neg => rw [if_neg h1]; exact ⟨fun h => (by cases h), fun h => absurd h.1.1 h1⟩
  rw [if_pos h1]
  by_cases h2 : (fs.take i).any (fun x => x.name == f.name) = true
  · rw [if_pos h2]
    simp only [List.any_eq_true, beq_iff_eq] at h2
    obtain ⟨y, hy, e⟩ := h2
    exact ⟨fun h => (by cases h), fun h => absurd e (h.2 y hy)⟩
  rw [if_neg h2]
  simp only [List.any_eq_true, beq_iff_eq, not_exists, not_and] at h2
  by_cases h3 : 5 < f.parts.length
  · rw [if_pos h3]
    exact ⟨fun h => (by cases h), fun h => absurd h.1.2.p5 (by omega)⟩
  rw [if_neg h3, partsE_iff]
  exact ⟨fun h => ⟨⟨h1, by omega, h⟩, h2⟩, fun h => h.1.2.parts⟩
theorem shelf_iff {s : Shelf} : (checkS s).2.2 = 0 ↔ ShelfV s := by
  unfold checkS
  by_cases h1 : beyondB 8 30 [s.w] = true
  · rw [if_pos h1]
    refine ⟨fun h => (by cases h), fun h => ?_⟩
    have := h.w8
    have := h.w30
    simp [beyondB] at h1
    omega
  rw [if_neg h1]
  have hw : 8 ≤ s.w ∧ s.w ≤ 30 := by simp [beyondB] at h1; omega
  by_cases h2 : 4 < s.forms.length
  · rw [if_pos h2]
    exact ⟨fun h => (by cases h), fun h => absurd h.f4 (by omega)⟩
  rw [if_neg h2]
  have key : (failF (formE s.forms) s.forms.length 0).2 = 0 ↔ (∀ f ∈ s.forms, nameB f.name = true ∧ FormV f) ∧ (s.forms.map (·.name)).Nodup := by
    rw [failF_iff, nodup_iff_take]
    constructor
    · intro h
      constructor
      · intro f hf
        obtain ⟨i, hi⟩ := List.mem_iff_getElem?.1 hf
        exact ((formE_iff hi).1 (h i (List.getElem?_eq_some_iff.1 hi).1)).1
      · intro i f hi
        exact ((formE_iff hi).1 (h i (List.getElem?_eq_some_iff.1 hi).1)).2
    · rintro ⟨h3, h4⟩ i hi
      have hx : s.forms[i]? = some s.forms[i] := by simp
      exact (formE_iff hx).2 ⟨h3 _ (List.mem_of_getElem? hx), h4 i _ hx⟩
  by_cases h3 : (failF (formE s.forms) s.forms.length 0).2 = 0
  · rw [if_pos h3]
    exact ⟨fun _ => ⟨hw.1, hw.2, by omega, (key.1 h3).1, (key.1 h3).2⟩, fun _ => rfl⟩
  · rw [if_neg h3]
    exact ⟨fun h => absurd h h3, fun h => absurd (key.2 ⟨h.forms, h.names⟩) h3⟩
def formI (s : Shelf) (n : Int) : Int := if (checkS s).2.2 = 0 then (if beyondB 0 ((s.forms.length : Int) - 1) [n] = true then 4 else 0) else (checkS s).2.2
def thenE (e : Int) (l : List Wd) : Int := if e = 0 then letterE l else e
def partsOf (s : Shelf) (n : Int) : List Part := match s.forms[n.toNat]? with | some f => f.parts | none => []
def putE1 (rs : List (Int × Int)) (fs : List (List Wd)) (i : Nat) : Int := match rs[i]?, fs[i]? with
  | some r, some f => if beyondB r.1 r.2 [(f.length : Int)] = true then 7 else if wordsB f = true then 0 else 6
  | _, _ => 0
def putE (rs : List (Int × Int)) (fs : List (List Wd)) : Int := if fs.length = rs.length then (failF (putE1 rs fs) fs.length 0).2 else 3
def makeE (s : Shelf) (n : Int) (fs : List (List Wd)) : Int := if formI s n = 0 then putE (roomsL (partsOf s n)) fs else formI s n
def makeR (s : Shelf) (n : Int) (fs : List (List Wd)) : List Wd × Int := if makeE s n fs = 0 then (builtF (partsOf s n) fs, 0) else ([], makeE s n fs)
def ofL (fs : List Form) (l : List Wd) : List Int := ((List.range fs.length).filter fun i => decide (waysF ((fs[i]?).elim [] (·.parts)) l ≠ [])).map fun (i : Nat) => (i : Int)
def ofR (s : Shelf) (l : List Wd) : List Int × Int := if thenE (checkS s).2.2 l = 0 then (ofL s.forms l, 0) else ([], thenE (checkS s).2.2 l)
def fillsR (s : Shelf) (n : Int) (l : List Wd) : List (List Wd) × Int × Int :=
  if thenE (formI s n) l = 0 then (match waysF (partsOf s n) l with
    | [] => ([], 0, 9)
    | m :: ms => (filledF (partsOf s n) m l, ((m :: ms).length : Nat), 0))
  else ([], 0, thenE (formI s n) l)
def writeR (s : Shelf) (l : List Wd) : List UInt8 × Int := if thenE (checkS s).2.2 l = 0 then (textF s.w.toNat l, 0) else ([], thenE (checkS s).2.2 l)
def readR (s : Shelf) (t : List UInt8) : List Wd × Int :=
  if (checkS s).2.2 = 0 then (if 160 < t.length then ([], 3) else if readB s.w.toNat t (fieldsF t) = true then (fieldsF t, 0) else ([], 6)) else ([], (checkS s).2.2)
def mendR (s : Shelf) (n : Int) (l : List Wd) : Int × Int := if thenE (formI s n) l = 0 then ((mendsF (partsOf s n) l : Nat), 0) else (0, thenE (formI s n) l)
/-- The first of the least numbers, and where it is. -/
def bestN : List Nat → Nat × Nat
  | [] => (0, 0)
  | [a] => (0, a)
  | a :: b :: l => if (bestN (b :: l)).2 < a then ((bestN (b :: l)).1 + 1, (bestN (b :: l)).2) else (0, a)
def nearE (s : Shelf) (l : List Wd) : Int := if thenE (checkS s).2.2 l = 0 then (if s.forms = [] then 9 else 0) else thenE (checkS s).2.2 l
def nearestR (s : Shelf) (l : List Wd) : Int × Int × Int :=
  if nearE s l = 0 then (((bestN (s.forms.map fun f => mendsF f.parts l)).1 : Nat), ((bestN (s.forms.map fun f => mendsF f.parts l)).2 : Nat), 0) else (0, 0, nearE s l)
theorem bestN_spec : ∀ {l : List Nat}, l ≠ [] → (∃ a, l[(bestN l).1]? = some a ∧ a = (bestN l).2) ∧ ∀ i a, l[i]? = some a → (bestN l).2 ≤ a ∧ (i < (bestN l).1 → (bestN l).2 < a)
  | [a], _ => by
    refine ⟨⟨a, rfl, rfl⟩, ?_⟩
    intro i x hx
    cases i with
    | zero => simp at hx; subst hx; simp [bestN]
    | succ i => simp at hx
  | a :: b :: l, _ => by
    obtain ⟨⟨x, h1, h2⟩, h3⟩ := bestN_spec (l := b :: l) (by simp)
    simp only [bestN]
    by_cases h : (bestN (b :: l)).2 < a
    · rw [if_pos h]
      refine ⟨⟨x, by simpa using h1, h2⟩, ?_⟩
      intro i y hy
      cases i with
      | zero => simp only [List.getElem?_cons_zero, Option.some.injEq] at hy; subst hy; simp only; omega
      | succ i =>
        have := h3 i y (by simpa using hy)
        simp only
        exact ⟨this.1, fun hi => this.2 (by omega)⟩
    · rw [if_neg h]
      refine ⟨⟨a, rfl, rfl⟩, ?_⟩
      intro i y hy
      cases i with
      | zero => simp only [List.getElem?_cons_zero, Option.some.injEq] at hy; subst hy; simp
      | succ i =>
        have := h3 i y (by simpa using hy)
        simp only
        exact ⟨by omega, fun hi => absurd hi (by omega)⟩
end Go.Px

namespace Go.Px
open Go.Proofs
theorem inR_len : ∀ {rs : List (Int × Int)} {ms : List Nat}, InR rs ms → ms.length = rs.length
  | [], [], _ => rfl
  | _ :: rs, _ :: ms, h => by simp [inR_len h.2]
theorem inR_get : ∀ {rs : List (Int × Int)} {ms : List Nat} {i : Nat} {r : Int × Int} {m : Nat}, InR rs ms → rs[i]? = some r → ms[i]? = some m → r.1 ≤ m ∧ (m : Int) ≤ r.2
  | r0 :: rs, m0 :: ms, 0, r, m, h, h1, h2 => by
    simp only [List.getElem?_cons_zero, Option.some.injEq] at h1 h2
    subst h1 h2
    exact h.1
  | r0 :: rs, m0 :: ms, i + 1, r, m, h, h1, h2 => inR_get h.2 (by simpa using h1) (by simpa using h2)
  | [], _, i, r, m, h, h1, h2 => by simp at h1
  | _ :: _, [], i, r, m, h, h1, h2 => h.elim
theorem inR_of : ∀ {rs : List (Int × Int)} {ms : List Nat}, ms.length = rs.length → (∀ (i : Nat) (r : Int × Int) (m : Nat), rs[i]? = some r → ms[i]? = some m → r.1 ≤ m ∧ (m : Int) ≤ r.2) → InR rs ms
  | [], [], _, _ => trivial
  | r :: rs, m :: ms, h, hg => ⟨hg 0 r m rfl rfl, inR_of (by simpa using h) (fun i r m h1 h2 => hg (i + 1) r m (by simpa using h1) (by simpa using h2))⟩
  | [], _ :: _, h, _ => by simp at h
  | _ :: _, [], h, _ => by simp at h
/-- What may be put into rooms. -/
theorem putE_zero {rs : List (Int × Int)} {fs : List (List Wd)} : putE rs fs = 0 ↔ InR rs (fs.map List.length) ∧ ∀ f ∈ fs, wordsB f = true := by
  unfold putE
  by_cases hl : fs.length = rs.length
  · rw [if_pos hl, failF_iff]
    constructor
    · intro h
      have key : ∀ (i : Nat) (r : Int × Int) (f : List Wd), rs[i]? = some r → fs[i]? = some f → (r.1 ≤ (f.length : Int) ∧ (f.length : Int) ≤ r.2) ∧ wordsB f = true := by
        intro i r f h1 h2
        have := h i (List.getElem?_eq_some_iff.1 h2).1
        simp only [putE1, h1, h2] at this
        by_cases hb : beyondB r.1 r.2 [(f.length : Int)] = true
        · rw [if_pos hb] at this; cases this
        · rw [if_neg hb] at this
          by_cases hw : wordsB f = true
          · refine ⟨?_, hw⟩
            simp [beyondB] at hb
            omega
          · rw [if_neg hw] at this; cases this
      refine ⟨inR_of (by simpa using hl) ?_, ?_⟩
      · intro i r m h1 h2
        rw [List.getElem?_map, Option.map_eq_some_iff] at h2
        obtain ⟨f, h2, rfl⟩ := h2
        exact (key i r f h1 h2).1
      · intro f hf
        obtain ⟨i, hi⟩ := List.mem_iff_getElem?.1 hf
        obtain ⟨r, hr⟩ := ex_get (show i < rs.length by have := (List.getElem?_eq_some_iff.1 hi).1; omega)
        exact (key i r f hr hi).2
    · rintro ⟨h1, h2⟩ i hi
      obtain ⟨f, hf⟩ := ex_get hi
      obtain ⟨r, hr⟩ := ex_get (show i < rs.length by omega)
      simp only [putE1, hf, hr]
      have := inR_get h1 hr (m := f.length) (by rw [List.getElem?_map, hf]; rfl)
      rw [if_neg (by simp [beyondB]; omega), if_pos (h2 f (List.mem_of_getElem? hf))]
  · rw [if_neg hl]
    refine ⟨fun h => (by cases h), fun h => ?_⟩
    have := inR_len h.1
    simp at this
    exact absurd this hl
theorem built_len : ∀ (ps : List Part) (fs : List (List Wd)), (∀ p ∈ ps, p.words.length ≤ 3) → (∀ f ∈ fs, f.length ≤ 3) → (builtF ps fs).length ≤ 3 * ps.length
  | [], _, _, _ => by simp [builtF]
  | p :: ps, fs, hp, hf => by
    simp only [builtF]
    split
    · have ih := built_len ps fs.tail (fun q hq => hp q (by simp [hq])) (fun f h => hf f (List.mem_of_mem_tail h))
      have : (fs.headD []).length ≤ 3 := by
        cases fs with
        | nil => simp
        | cons f fs => exact hf f (by simp)
      rw [List.length_append, List.length_cons]; omega
    · have ih := built_len ps fs (fun q hq => hp q (by simp [hq])) hf
      have := hp p (by simp)
      simp; omega
section
variable {s : Shelf} (V : ShelfV s) {n : Nat} {f : Form} (hf : s.forms[n]? = some f)
include V hf
end
end Go.Px

namespace Go.Px
open Go.Proofs
abbrev Part.enc (p : Part) : List AV := [strs p.words, I p.lo, I p.hi]
abbrev partsV (l : List Part) : AV := .sl 3 (l.map Part.enc)
abbrev Form.enc (f : Form) : List AV := [Str f.name, partsV f.parts]
abbrev formsV (l : List Form) : AV := .sl 2 (l.map Form.enc)
abbrev Shelf.enc (s : Shelf) : List AV := [I s.w, formsV s.forms]
abbrev Mark.enc (m : Mark) : List AV := [I m.k, Str m.w]
abbrev marksV (l : List Mark) : AV := .sl 2 (l.map Mark.enc)
abbrev fillsV (l : List (List Wd)) : AV := .sl 1 (l.map fun f => [strs f])
def WdOK (s : Wd) : Prop := s.length ≤ 9223372036854775807
def WdsOK (l : List Wd) : Prop := ∀ s ∈ l, WdOK s
structure Part.wf (p : Part) : Prop where
  words : WdsOK p.words
  lo0 : -9223372036854775808 ≤ p.lo
  lo1 : p.lo ≤ 9223372036854775807
  hi0 : -9223372036854775808 ≤ p.hi
  hi1 : p.hi ≤ 9223372036854775807
structure Form.wf (f : Form) : Prop where
  name : WdOK f.name
  parts : ∀ p ∈ f.parts, p.wf
structure Shelf.wf (s : Shelf) : Prop where
  w0 : -9223372036854775808 ≤ s.w
  w1 : s.w ≤ 9223372036854775807
  forms : ∀ f ∈ s.forms, f.wf
structure Mark.wf (m : Mark) : Prop where
  k0 : -9223372036854775808 ≤ m.k
  k1 : m.k ≤ 9223372036854775807
  w : WdOK m.w
end Go.Px

namespace Go.Px
open Go.Proofs
theorem indexS_ev (l : List Wd) (g : Nat) (caps : List AV) (p : Wd → Bool) (h : ∀ x ∈ l, Ev Try.prog g (Str x :: caps) (B (p x))) : Ev Try.prog 127 [.sl 1 (l.map (fun s => [Str s])), .fn (.func g) [] caps] (I (idxF p l 0)) := by
  refine Ev.intro fn127 ?_
  refine LWp.slLen 0 rfl fun ha => ?_
  simp only [List.length_map] at ha
  refine LWp.sx (gs := []) (hs := []) rfl trivial ?_
  refine LWp.seq ?_
  refine LWp.sx (gs := []) (hs := []) rfl trivial ?_
  refine LWp.blockT (fun _ : Unit => idxF p l 0 = -1) (fun _ => el []) (fun _ => []) (fun _ => []) ?_ ?_
  · refine LWp.loopN (fun k : Nat => k ≤ l.length ∧ idxF p l 0 = idxF p (l.drop k) k) (fun k => el [(0, .sl 1 (l.map (fun s => [Str s]))), (1, .fn (.func g) [] caps), (7, I l.length), (8, I k)]) (fun _ => []) (fun _ => []) (fun k => l.length - k) 0 ⟨by omega, rfl⟩
      (Ent.el ⟨rfl, rfl, by show I _ = I _; simp, rfl, trivial⟩) ?_
    rintro k ⟨hk, hi⟩
    refine LWp.sx (gs := []) (hs := []) rfl trivial ?_
    refine LWp.seq (LWp.ite rfl (fun hc => ?_) (fun hc => ?_))
    · simp only [decide_eq_true_eq, Int.ofNat_lt] at hc
      obtain ⟨x, hx⟩ := ex_get hc
      rw [drop_cons hx, idxF] at hi
      refine LWp.skip (LWp.seq (LWp.block ?_))
      refine LWp.sx (gs := []) (hs := []) rfl trivial ?_
      refine LWp.seq ?_
      refine LWp.x (gs := []) (hs := [.cells ([Str x]), .ret (B (p x))]) rfl ⟨⟨by omega, by simp [hx]⟩, h x (List.mem_of_getElem? hx), trivial⟩ ?_
      refine LWp.ite rfl (fun hb => ?_) (fun hb => ?_)
      · refine LWp.sx (gs := []) (hs := []) rfl trivial ?_
        refine LWp.ret (retT (.inr rfl) (.one (.tmp ?_ rfl)))
        show I _ = I _
        rw [hi, hb]; rfl
      · refine LWp.skip ?_
        refine LWp.x (gs := []) (hs := []) rfl ⟨by omega, trivial⟩ ?_
        exact ⟨k + 1, ⟨hc, by rw [hi, hb]; rfl⟩, by omega, Ent.el ⟨rfl, rfl, rfl, rfl, trivial⟩⟩
    · simp only [decide_eq_false_iff_not, Int.ofNat_lt] at hc
      refine LWp.exit ⟨(), ?_, Ent.el trivial⟩
      rw [hi, drop_nil hc]; rfl
  · intro _ h
    refine LWp.sx (gs := []) (hs := []) rfl trivial ?_
    refine LWp.ret (retT (.inr rfl) (.one (.tmp ?_ rfl)))
    rw [h]; rfl
theorem containsS_ev (l : List Wd) (g : Nat) (caps : List AV) (p : Wd → Bool) (h : ∀ x ∈ l, Ev Try.prog g (Str x :: caps) (B (p x))) : Ev Try.prog 102 [.sl 1 (l.map (fun s => [Str s])), .fn (.func g) [] caps] (B (l.any p)) := by
  refine Ev.intro fn102 ?_
  refine LWp.sx (gs := []) (hs := []) rfl trivial ?_
  refine LWp.sx (gs := []) (hs := [.ret (I (idxF p l 0))]) rfl ⟨indexS_ev l g caps p h, trivial⟩ ?_
  refine LWp.ret (retT (.inr rfl) (.one (.tmp ?_ rfl)))
  show B _ = B _
  rw [idxF_ge p l 0 (by omega)]
theorem indexF_ev (l : List Form) (g : Nat) (caps : List AV) (p : Form → Bool) (h : ∀ x ∈ l, Ev Try.prog g (.agg x.enc :: caps) (B (p x))) : Ev Try.prog 99 [.sl 2 (l.map Form.enc), .fn (.func g) [] caps] (I (idxF p l 0)) := by
  refine Ev.intro fn99 ?_
  refine LWp.slLen 0 rfl fun ha => ?_
  simp only [List.length_map] at ha
  refine LWp.sx (gs := []) (hs := []) rfl trivial ?_
  refine LWp.seq ?_
  refine LWp.sx (gs := []) (hs := []) rfl trivial ?_
  refine LWp.blockT (fun _ : Unit => idxF p l 0 = -1) (fun _ => el []) (fun _ => []) (fun _ => []) ?_ ?_
  · refine LWp.loopN (fun k : Nat => k ≤ l.length ∧ idxF p l 0 = idxF p (l.drop k) k) (fun k => el [(0, .sl 2 (l.map Form.enc)), (1, .fn (.func g) [] caps), (7, I l.length), (8, I k)]) (fun _ => []) (fun _ => []) (fun k => l.length - k) 0 ⟨by omega, rfl⟩
      (Ent.el ⟨rfl, rfl, by show I _ = I _; simp, rfl, trivial⟩) ?_
    rintro k ⟨hk, hi⟩
    refine LWp.sx (gs := []) (hs := []) rfl trivial ?_
    refine LWp.seq (LWp.ite rfl (fun hc => ?_) (fun hc => ?_))
    · simp only [decide_eq_true_eq, Int.ofNat_lt] at hc
      obtain ⟨x, hx⟩ := ex_get hc
      rw [drop_cons hx, idxF] at hi
      refine LWp.skip (LWp.seq (LWp.block ?_))
      refine LWp.sx (gs := []) (hs := []) rfl trivial ?_
      refine LWp.seq ?_
      refine LWp.x (gs := []) (hs := [.cells (x.enc), .ret (B (p x))]) rfl ⟨⟨by omega, by simp [hx]⟩, h x (List.mem_of_getElem? hx), trivial⟩ ?_
      refine LWp.ite rfl (fun hb => ?_) (fun hb => ?_)
      · refine LWp.sx (gs := []) (hs := []) rfl trivial ?_
        refine LWp.ret (retT (.inr rfl) (.one (.tmp ?_ rfl)))
        show I _ = I _
        rw [hi, hb]; rfl
      · refine LWp.skip ?_
        refine LWp.x (gs := []) (hs := []) rfl ⟨by omega, trivial⟩ ?_
        exact ⟨k + 1, ⟨hc, by rw [hi, hb]; rfl⟩, by omega, Ent.el ⟨rfl, rfl, rfl, rfl, trivial⟩⟩
    · simp only [decide_eq_false_iff_not, Int.ofNat_lt] at hc
      refine LWp.exit ⟨(), ?_, Ent.el trivial⟩
      rw [hi, drop_nil hc]; rfl
  · intro _ h
    refine LWp.sx (gs := []) (hs := []) rfl trivial ?_
    refine LWp.ret (retT (.inr rfl) (.one (.tmp ?_ rfl)))
    rw [h]; rfl
theorem containsF_ev (l : List Form) (g : Nat) (caps : List AV) (p : Form → Bool) (h : ∀ x ∈ l, Ev Try.prog g (.agg x.enc :: caps) (B (p x))) : Ev Try.prog 59 [.sl 2 (l.map Form.enc), .fn (.func g) [] caps] (B (l.any p)) := by
  refine Ev.intro fn59 ?_
  refine LWp.sx (gs := []) (hs := []) rfl trivial ?_
  refine LWp.sx (gs := []) (hs := [.ret (I (idxF p l 0))]) rfl ⟨indexF_ev l g caps p h, trivial⟩ ?_
  refine LWp.ret (retT (.inr rfl) (.one (.tmp ?_ rfl)))
  show B _ = B _
  rw [idxF_ge p l 0 (by omega)]
theorem off1_ev (n lo hi : Int) : Ev Try.prog 97 [I n, .pi [I lo], .pi [I hi]] (B (decide (n < lo) || decide (n > hi))) := by
  refine Ev.intro fn97 ?_
  refine LWp.sx (gs := []) (hs := []) rfl trivial ?_
  by_cases h : n < lo
  · refine LWp.sx (gs := [(8, true)]) (hs := []) rfl (by simp [h]) ?_
    refine LWp.ret (retT (.inr rfl) (.one (.tmp ?_ rfl)))
    show B _ = B _
    simp [h]
  · refine LWp.sx (gs := [(8, false)]) (hs := []) rfl (by simp [h]) ?_
    refine LWp.ret (retT (.inr rfl) (.one (.tmp ?_ rfl)))
    show B _ = B _
    simp [h]
theorem off_ev (lo hi : Int) (l : List Int) : Ev Try.prog 57 [I lo, I hi, ints l] (B (beyondB lo hi l)) := by
  refine Ev.intro fn57 ?_
  refine LWp.sx (gs := []) (hs := [.ice, .ice]) rfl ⟨⟨rfl, rfl⟩, ⟨rfl, rfl⟩, trivial⟩ ?_
  refine LWp.sx (gs := []) (hs := [.ret (B (beyondB lo hi l))]) rfl ⟨containsI_ev l _ _ _ (fun n _ => off1_ev n lo hi), trivial⟩ ?_
  refine LWp.ret (retT (.inr rfl) (.one (.tmp ?_ rfl)))
  rfl
def lowB (c : Nat) : Bool := decide (97 ≤ c) && decide (c ≤ 122)
theorem wordB_eq (l : Wd) : wordB l = (!beyondB 1 8 [(l.length : Int)] && l.all fun c => lowB c.toNat) := by
  unfold wordB lowB
  congr 1
  rw [Bool.eq_iff_iff]
  simp [beyondB]; omega
theorem word_ev (l : Wd) : Ev Try.prog 85 [Str l] (B (wordB l)) := by
  refine Ev.intro fn85 ?_
  refine LWp.sx (gs := []) (hs := []) rfl trivial ?_
  refine LWp.seq (LWp.seq (LWp.ops ?_))
  refine WOps.x (gs := []) (hs := []) rfl trivial ?_
  refine WOps.cons (Op1.rangeS rfl (fun b => ?_))
  refine WOps.xd (gs := []) (hs := []) rfl trivial ?_
  refine LWp.blockT (fun _ : Unit => l.all (fun c => lowB c.toNat) = true) (fun _ => el [(0, Str l)]) (fun _ => []) (fun _ => []) ?_ ?_
  · refine LWp.loopN (fun k : Nat => k ≤ l.length ∧ l.all (fun c => lowB c.toNat) = (l.drop k).all (fun c => lowB c.toNat)) (fun k => el [(0, Str l), (6, .po b 0)]) (fun k => [(b, .raw (.stringIter ⟨l.toArray⟩ k))]) (fun _ => []) (fun k => l.length - k) 0 ⟨by omega, rfl⟩
      (Ent.el ⟨rfl, rfl, trivial⟩) ?_
    rintro k ⟨hk, hi⟩
    refine LWp.seq (LWp.ops (WOps.cons (Op1.nextS (i := 0) rfl rfl (fun hp => ?_) (fun hp => ?_))))
    · simp only [List.size_toArray, ByteArray.size] at hp
      obtain ⟨c, hc⟩ := ex_get hp
      have hg : (ByteArray.mk l.toArray).get! k = c := by
        have h2 := (List.getElem?_eq_some_iff.1 hc).2
        show l.toArray[k]! = c
        rw [getElem!_pos l.toArray k (by simpa using hp)]
        simpa using h2
      rw [drop_cons hc, List.all_cons] at hi
      have hwd : 128 ≤ c.toNat → 128 ≤ (Utf8.decode ⟨l.toArray⟩ k).1 := fun h => decode_hi _ _ (by rw [hg]; exact h)
      have hwl : c.toNat < 128 → Utf8.decode ⟨l.toArray⟩ k = (c.toNat, 1) := fun h => by rw [decode_lo _ _ (by rw [hg]; exact h), hg]
      generalize hde : Utf8.decode ⟨l.toArray⟩ k = de at hwd hwl
      obtain ⟨u, wd⟩ := de
      simp only at hwd
      have huw : lowB c.toNat = lowB u ∧ (lowB u = true → (u, wd) = (c.toNat, 1)) := by
        by_cases hlt : c.toNat < 128
        · have := hwl hlt
          simp only [Prod.mk.injEq] at this
          obtain ⟨rfl, rfl⟩ := this
          exact ⟨rfl, fun _ => rfl⟩
        · have := hwd (by omega)
          have e1 : lowB c.toNat = false := by simp [lowB]; omega
          have e2 : lowB u = false := by simp [lowB]; omega
          rw [e1, e2]
          exact ⟨rfl, fun h => by cases h⟩
      refine WOps.xd (gs := []) (hs := []) rfl trivial ?_
      refine LWp.seq (LWp.ite (b := true) rfl (fun _ => LWp.skip ?_) (fun h => by cases h))
      refine LWp.block ?_
      refine LWp.sx (gs := []) (hs := []) rfl trivial ?_
      refine LWp.cutX (fun _ : Unit => True) (fun _ => el [(0, Str l), (6, .po b 0), (15, B (!lowB u))]) (fun _ => [(b, .raw (.stringIter ⟨l.toArray⟩ (k + wd)))]) (fun _ => []) ?_ ?_
      · by_cases h1 : (u : Int) < 97
        · have g1 : decide ((u : Int) < 97) = true := decide_eq_true h1
          refine LWp.x (gs := [(12, true)]) (hs := []) rfl (by (repeat' (with_reducible apply And.intro)); (all_goals try first | (with_reducible exact trivial) | (with_reducible rfl) | (with_reducible assumption) | ((with_reducible apply isB); first | exact rfl | exact beq_self_eq_true _))) ?_
          refine ⟨(), trivial, Ent.el ⟨rfl, rfl, ?_, trivial⟩⟩
          have : lowB u = false := by simp [lowB]; omega
          rw [this]; rfl
        · have g1 : decide ((u : Int) < 97) = false := decide_eq_false h1
          refine LWp.x (gs := [(12, false)]) (hs := []) rfl (by (repeat' (with_reducible apply And.intro)); (all_goals try first | (with_reducible exact trivial) | (with_reducible rfl) | (with_reducible assumption) | ((with_reducible apply isB); first | exact rfl | exact beq_self_eq_true _))) ?_
          refine ⟨(), trivial, Ent.el ⟨rfl, rfl, ?_, trivial⟩⟩
          have : (!lowB u) = decide ((u : Int) > 122) := by rw [Bool.eq_iff_iff]; simp [lowB]; omega
          rw [this]; rfl
      intro _ _
      refine LWp.ite rfl (fun hb => ?_) (fun hb => ?_)
      · have hb : lowB u = false := by simpa using hb
        refine LWp.sx (gs := []) (hs := []) rfl trivial ?_
        refine LWp.ret (retT (.inr rfl) (.one (.tmp ?_ rfl)))
        show B _ = B _
        rw [wordB_eq, hi, huw.1, hb]
        simp
      · have hb : lowB u = true := by simpa using hb
        have := huw.2 hb
        simp only [Prod.mk.injEq] at this
        obtain ⟨rfl, rfl⟩ := this
        exact LWp.skip ⟨k + 1, ⟨hp, by rw [hi, hb, Bool.true_and]⟩, by omega, Ent.el ⟨rfl, rfl, trivial⟩⟩
    · simp only [List.size_toArray, ByteArray.size] at hp
      refine WOps.xd (gs := []) (hs := []) rfl trivial ?_
      refine LWp.seq (LWp.ite (b := false) rfl (fun h => by cases h) (fun _ => LWp.exit ⟨(), ?_, ?_⟩))
      · rw [hi, drop_nil hp]; rfl
      · exact Ent.trans (Ent.dropH 0) (Ent.el ⟨rfl, trivial⟩)
  · intro _ h
    refine LWp.sx (gs := []) (hs := [.ice, .ret (B (beyondB 1 8 [(l.length : Int)]))]) rfl ⟨rfl, off_ev 1 8 [(l.length : Int)], trivial⟩ ?_
    refine LWp.ret (retT (.inr rfl) (.one (.tmp ?_ rfl)))
    show B _ = B _
    rw [wordB_eq, h, Bool.and_true]
theorem worded1_ev (s : Wd) : Ev Try.prog 103 [Str s] (B (!wordB s)) := by
  refine Ev.intro fn103 ?_
  refine LWp.sx (gs := []) (hs := []) rfl trivial ?_
  refine LWp.sx (gs := []) (hs := [.ret (B (wordB s))]) rfl ⟨word_ev s, trivial⟩ ?_
  refine LWp.ret (retT (.inr rfl) (.one (.tmp ?_ rfl)))
  rfl
theorem worded_ev (l : List Wd) : Ev Try.prog 65 [strs l] (I (if wordsB l = true then 0 else 6)) := by
  refine Ev.intro fn65 ?_
  refine LWp.sx (gs := []) (hs := []) rfl trivial ?_
  have hc := containsS_ev l 103 [] (fun s => !wordB s) (fun s _ => worded1_ev s)
  have he : l.any (fun s => !wordB s) = !wordsB l := by unfold wordsB; rw [List.all_eq_not_any_not]; simp
  rw [he] at hc
  refine LWp.seq (LWp.seq ?_)
  refine LWp.x (gs := []) (hs := [.ret (B (!wordsB l))]) rfl ⟨hc, trivial⟩ ?_
  refine LWp.ite rfl (fun h => ?_) (fun h => LWp.skip ?_)
  · have h : wordsB l = false := by simpa using h
    rw [h]
    refine LWp.sx (gs := []) (hs := []) rfl trivial ?_
    refine LWp.ret (retT (.inr rfl) (.one (.tmp ?_ rfl)))
    rfl
  · have h : wordsB l = true := by simpa using h
    rw [h]
    refine LWp.sx (gs := []) (hs := []) rfl trivial ?_
    refine LWp.ret (retT (.inr rfl) (.one (.tmp ?_ rfl)))
    rfl
theorem lettered_ev (l : List Wd) : Ev Try.prog 70 [strs l] (I (letterE l)) := by
  refine Ev.intro fn70 ?_
  refine LWp.sx (gs := []) (hs := []) rfl trivial ?_
  refine LWp.seq (LWp.seq ?_)
  refine LWp.x (gs := []) (hs := []) rfl trivial ?_
  refine LWp.ite rfl (fun h => ?_) (fun h => LWp.skip ?_)
  · have h : 15 < l.length := by simp at h; omega
    refine LWp.sx (gs := []) (hs := []) rfl trivial ?_
    refine LWp.ret (retT (.inr rfl) (.one (.tmp ?_ rfl)))
    show I _ = I _
    unfold letterE
    rw [if_pos h]
  · have h : ¬ 15 < l.length := by simp at h; omega
    refine LWp.sx (gs := []) (hs := [.ret (I (if wordsB l = true then 0 else 6))]) rfl ⟨worded_ev l, trivial⟩ ?_
    refine LWp.ret (retT (.inr rfl) (.one (.tmp ?_ rfl)))
    show I _ = I _
    unfold letterE
    rw [if_neg h]
end Go.Px

namespace Go.Px
open Go.Proofs
theorem wf_i64 {n : Int} (h0 : -9223372036854775808 ≤ n) (h1 : n ≤ 9223372036854775807) : (Lit.int .i64 n).wf = true := by
  have e1 : IntKind.i64.min = -9223372036854775808 := rfl
  have e2 : IntKind.i64.max = 9223372036854775807 := rfl
  simp [Lit.wf]
  omega
theorem spanV {a b : Int} (ha : (Lit.int .i64 a).wf = true) (hb : (Lit.int .i64 b).wf = true) : WideKey Try.prog 3 82 (.agg #[.int .i64 a, .int .i64 b]) := by
  have e1 : Try.prog.cellsOf 82 = 2 := by kernel_rfl
  have e3 : Try.prog.cellsOf 3 = 1 := by kernel_rfl
  refine ⟨?_, [.int .i64 a, .int .i64 b], ?_⟩
  · simp [Value.formed, Try.underlying82, e1]
  · simp [Value.cells, Program.keyLits, Try.underlying82, Try.underlying3, e1, e3, ha, hb]
/-- '==' and '!=' of spans. -/
theorem op_span {a b c d : Int} (ha : (Lit.int .i64 a).wf = true) (hb : (Lit.int .i64 b).wf = true) (hc : (Lit.int .i64 c).wf = true) (hd : (Lit.int .i64 d).wf = true) {neg : Bool} {x y : Operand} {env : Env} {H : Heap} {t : Nat}
    (hx : valOf (evO env x) = some (.agg #[.int .i64 a, .int .i64 b])) (hy : valOf (evO env y) = some (.agg #[.int .i64 c, .int .i64 d])) :
    ∀ (r : Option Nat) (N : Nat) (D : List Nat), Q1 Try.prog r N (.eqT neg 82 x y) (some t) env H D [(t, B (if neg = true then !decide (a = c ∧ b = d) else decide (a = c ∧ b = d)))] := by
  intro r N D
  exact Op1.eqT (m := 3) (DD := 3) (by decide) (by kernel_rfl) (by kernel_rfl) (by kernel_rfl) (by kernel_rfl) hx hy (spanV ha hb) (spanV hc hd) (decide (a = c ∧ b = d)) (by
    rw [decide_eq_true_iff]; simp) ⟨rfl, rfl, rfl⟩
end Go.Px

namespace Go.Px
open Go.Proofs
theorem partE_eq (p : Part) : partE p = if 3 < p.words.length then 3 else if wordsB p.words = true then (if 0 < p.words.length then (if p.lo = 0 ∧ p.hi = 0 then 0 else 2) else if (beyondB 0 3 [p.lo, p.hi] || decide (p.hi = 0)) = true then 7 else if p.hi < p.lo then 2 else 0) else 6 := by
  unfold partE
  have e : (p.words ≠ []) = (0 < p.words.length) := by rw [List.length_pos_iff]
  simp only [e]
theorem parted_ev (p : Part) (hw : p.wf) : Ev Try.prog 61 [.agg p.enc] (I (partE p)) := by
  have hlo := wf_i64 hw.lo0 hw.lo1
  have hhi := wf_i64 hw.hi0 hw.hi1
  have h00 := wf_i64 (n := 0) (by decide) (by decide)
  have hln : (p.words.map fun s => [Str s]).length = p.words.length := List.length_map _
  have hof := off_ev 0 3 [p.lo, p.hi]
  refine Ev.intro fn61 ?_
  rw [partE_eq]
  refine LWp.sx (gs := []) (hs := [.ice]) rfl ⟨⟨rfl, rfl⟩, trivial⟩ ?_
  refine LWp.sx (gs := []) (hs := [.ret (I (if wordsB p.words = true then 0 else 6))]) rfl ⟨worded_ev _, trivial⟩ ?_
  refine LWp.seqBlock ?_
  refine LWp.sx (gs := []) (hs := []) rfl trivial ?_
  refine LWp.ite rfl (fun h => ?_) (fun h => ?_)
  · have h : 3 < p.words.length := by simp at h; omega
    rw [if_pos h]
    refine LWp.sx (gs := []) (hs := []) rfl trivial ?_
    refine LWp.ret (retT (.inr rfl) (.one (.tmp ?_ rfl)))
    rfl
  have h : ¬ 3 < p.words.length := by simp at h; omega
  rw [if_neg h]
  by_cases hws : wordsB p.words = true
  case neg =>
    rw [if_neg hws]
    refine LWp.ent (Ent.el (l := [(1, .pi p.enc), (3, I 6)]) ⟨rfl, by rw [if_neg hws]; rfl, trivial⟩) ?_
    refine LWp.sx (gs := []) (hs := []) rfl trivial ?_
    refine LWp.ite (b := true) rfl (fun _ => ?_) (fun h => by cases h)
    refine LWp.sx (gs := []) (hs := []) rfl trivial ?_
    refine LWp.ret (retT (.inr rfl) (.one (.tmp ?_ rfl)))
    rfl
  rw [if_pos hws]
  refine LWp.ent (Ent.el (l := [(1, .pi p.enc), (3, I 0)]) ⟨rfl, by rw [if_pos hws]; rfl, trivial⟩) ?_
  refine LWp.sx (gs := []) (hs := []) rfl trivial ?_
  refine LWp.ite (b := false) rfl (fun h => by cases h) (fun _ => ?_)
  by_cases hl : 0 < p.words.length
  · rw [if_pos hl]
    have g1 : decide (((p.words.map fun s => [Str s]).length : Int) > 0) = true := decide_eq_true (by rw [hln]; omega)
    refine LWp.sx (gs := [(21, true)]) (hs := [.op (B (!decide (p.lo = 0 ∧ p.hi = 0)))]) rfl (by (repeat' (with_reducible apply And.intro)); (all_goals try first | (with_reducible exact trivial) | (with_reducible rfl) | (with_reducible assumption) | ((with_reducible apply isB); first | exact rfl | exact beq_self_eq_true _)); exact op_span (neg := true) hlo hhi h00 h00 rfl rfl) ?_
    refine LWp.ite rfl (fun hr => ?_) (fun hr => ?_)
    · have hr : ¬ (p.lo = 0 ∧ p.hi = 0) := by intro e; simp [e.1, e.2] at hr
      rw [if_neg hr]
      refine LWp.sx (gs := []) (hs := []) rfl trivial ?_
      refine LWp.ret (retT (.inr rfl) (.one (.tmp ?_ rfl)))
      rfl
    · have hr : p.lo = 0 ∧ p.hi = 0 := by simpa using hr
      rw [if_pos hr]
      refine LWp.sx (gs := []) (hs := []) rfl trivial ?_
      refine LWp.ite rfl (fun _ => ?_) (fun h => absurd hl (by simpa using h))
      refine LWp.sx (gs := []) (hs := []) rfl trivial ?_
      refine LWp.ret (retT (.inr rfl) (.one (.tmp ?_ rfl)))
      rfl
  · rw [if_neg hl]
    have g1 : decide (((p.words.map fun s => [Str s]).length : Int) > 0) = false := decide_eq_false (by rw [hln]; omega)
    refine LWp.sx (gs := [(21, false)]) (hs := []) rfl (by (repeat' (with_reducible apply And.intro)); (all_goals try first | (with_reducible exact trivial) | (with_reducible rfl) | (with_reducible assumption) | ((with_reducible apply isB); first | exact rfl | exact beq_self_eq_true _))) ?_
    refine LWp.ite (b := false) rfl (fun h => by cases h) (fun _ => ?_)
    refine LWp.sx (gs := []) (hs := []) rfl trivial ?_
    refine LWp.ite rfl (fun h => absurd (by simpa using h) (show ¬ (0 < p.words.length) from hl)) (fun _ => ?_)
    generalize hbb : beyondB 0 3 [p.lo, p.hi] = bb at hof
    refine LWp.cutX (fun _ : Unit => True) (fun _ => el [(1, .pi p.enc), (32, B (bb || decide (p.hi = 0)))]) (fun _ => []) (fun _ => []) ?_ (fun _ _ => ?_)
    · cases bb with
      | true =>
        refine LWp.x (gs := [(41, true)]) (hs := [.ice, .ret (B true)]) rfl (by (repeat' (with_reducible apply And.intro)); (all_goals try first | (with_reducible exact trivial) | (with_reducible rfl) | (with_reducible assumption) | ((with_reducible apply isB); first | exact rfl | exact beq_self_eq_true _)); exact hof) ?_
        exact ⟨(), trivial, Ent.el ⟨rfl, rfl, trivial⟩⟩
      | false =>
        refine LWp.x (gs := [(41, false)]) (hs := [.ice, .ret (B false)]) rfl (by (repeat' (with_reducible apply And.intro)); (all_goals try first | (with_reducible exact trivial) | (with_reducible rfl) | (with_reducible assumption) | ((with_reducible apply isB); first | exact rfl | exact beq_self_eq_true _)); exact hof) ?_
        refine ⟨(), trivial, Ent.el ⟨rfl, ?_, trivial⟩⟩
        have : (false || decide (p.hi = 0)) = (p.hi == 0) := by rw [Bool.false_or, Bool.eq_iff_iff]; simp
        rw [this]; rfl
    refine LWp.ite rfl (fun hb => ?_) (fun hb => ?_)
    · rw [if_pos hb]
      refine LWp.sx (gs := []) (hs := []) rfl trivial ?_
      refine LWp.ret (retT (.inr rfl) (.one (.tmp ?_ rfl)))
      rfl
    · rw [if_neg (by simp [hb])]
      refine LWp.sx (gs := []) (hs := []) rfl trivial ?_
      refine LWp.ite rfl (fun h => ?_) (fun h => ?_)
      · have h : p.hi < p.lo := by simpa using h
        rw [if_pos h]
        refine LWp.sx (gs := []) (hs := []) rfl trivial ?_
        refine LWp.ret (retT (.inr rfl) (.one (.tmp ?_ rfl)))
        rfl
      · have h : ¬ p.hi < p.lo := by simpa using h
        rw [if_neg h]
        refine LWp.skip ?_
        refine LWp.sx (gs := []) (hs := []) rfl trivial ?_
        refine LWp.ret (retT (.inr rfl) (.one (.tmp ?_ rfl)))
        rfl
end Go.Px

namespace Go.Px
open Go.Proofs
theorem failF_step {f : Nat → Int} {n k : Nat} (h : k < n) : (failF f (n - k) k) = if f k = 0 then failF f (n - (k + 1)) (k + 1) else ((k : Int), f k) := by
  rw [show n - k = (n - (k + 1)) + 1 by omega, failF]
theorem check1_ev (x f : Form) : Ev Try.prog 60 [.agg x.enc, .pi f.enc] (B (x.name == f.name)) := by
  refine Ev.intro fn60 ?_
  refine LWp.sx (gs := []) (hs := [.ice]) rfl ⟨⟨rfl, rfl⟩, trivial⟩ ?_
  refine LWp.sx (gs := []) (hs := []) rfl trivial ?_
  refine LWp.ret (retT (.inr rfl) (.one (.tmp ?_ rfl)))
  show B _ = B _
  simp
theorem check_ev (s : Shelf) (hw : s.wf) : Ev Try.prog 16 [.agg s.enc] (.tup [I (checkS s).1, I (checkS s).2.1, I (checkS s).2.2]) := by
  refine Ev.intro fn16 ?_
  have hfl : (s.forms.map Form.enc).length = s.forms.length := List.length_map _
  have res : ∀ {env : Env} {H : Heap} {p q r : Int}, checkS s = (p, q, r) → env 2 = I p → env 3 = I q → env 4 = I r → retP Try.prog [.tmp 2, .tmp 3, .tmp 4] (.tup [I (checkS s).1, I (checkS s).2.1, I (checkS s).2.2]) .ret env H [] := by
    intro env H p q r h h2 h3 h4
    rw [h]
    exact retT (.inr rfl) (.many (by decide) ⟨.tmp h2 rfl, .tmp h3 rfl, .tmp h4 rfl, trivial⟩)
  refine LWp.sx (gs := []) (hs := [.ice]) rfl ⟨⟨rfl, rfl⟩, trivial⟩ ?_
  refine LWp.seqBlock ?_
  refine LWp.sx (gs := []) (hs := [.ice, .ret (B (beyondB 8 30 [s.w]))]) rfl ⟨rfl, off_ev 8 30 [s.w], trivial⟩ ?_
  refine LWp.ite rfl (fun hc => ?_) (fun hc => ?_)
  · refine LWp.sx (gs := []) (hs := []) rfl trivial ?_
    exact LWp.ret (res (p := 1) (q := 0) (r := 7) (by simp only [checkS, hc, if_true]) rfl rfl rfl)
  refine LWp.sx (gs := []) (hs := []) rfl trivial ?_
  refine LWp.ite rfl (fun hd => ?_) (fun hd => ?_)
  · have hd : 4 < s.forms.length := by simp at hd; omega
    refine LWp.sx (gs := []) (hs := []) rfl trivial ?_
    exact LWp.ret (res (p := 2) (q := 0) (r := 3) (by simp only [checkS, hc, hd, if_true, if_false, Bool.false_eq_true]) rfl rfl rfl)
  have hd : ¬ 4 < s.forms.length := by simp at hd; omega
  refine LWp.skip ?_
  have hck : checkS s = if (failF (formE s.forms) s.forms.length 0).2 = 0 then (0, 0, 0) else (2, (failF (formE s.forms) s.forms.length 0).1, (failF (formE s.forms) s.forms.length 0).2) := by
    simp only [checkS, hc, hd, if_false, Bool.false_eq_true]
  refine LWp.seq (LWp.seq ?_)
  refine LWp.x (gs := []) (hs := []) rfl trivial ?_
  refine LWp.blockT (fun _ : Unit => (failF (formE s.forms) s.forms.length 0).2 = 0) (fun _ => el []) (fun _ => []) (fun _ => []) ?_ ?_
  · refine LWp.loopN (fun k : Nat => k ≤ s.forms.length ∧ failF (formE s.forms) s.forms.length 0 = failF (formE s.forms) (s.forms.length - k) k) (fun k => el [(1, .pi s.enc), (20, formsV s.forms), (21, I s.forms.length), (22, I k)]) (fun _ => []) (fun _ => []) (fun k => s.forms.length - k) 0 ⟨by omega, rfl⟩
      (Ent.el ⟨rfl, rfl, by show I _ = I _; rw [hfl], rfl, trivial⟩) ?_
    rintro k ⟨hk, hi⟩
    refine LWp.sx (gs := []) (hs := []) rfl trivial ?_
    refine LWp.seq (LWp.ite rfl (fun he => ?_) (fun he => ?_))
    · simp only [decide_eq_true_eq, Int.ofNat_lt] at he
      obtain ⟨f, hf⟩ := ex_get he
      have hfw := hw.forms f (List.mem_of_getElem? hf)
      have hpl : (f.parts.map Part.enc).length = f.parts.length := List.length_map _
      rw [failF_step he] at hi
      have hfe : formE s.forms k = if nameB f.name = true then (if (s.forms.take k).any (fun x => x.name == f.name) = true then 5 else if 5 < f.parts.length then 3 else (failF (partsE f.parts) f.parts.length 0).2) else 6 := by
        simp only [formE, hf]
      have bad : ∀ {e : Int}, formE s.forms k = e → e ≠ 0 → checkS s = (2, (k : Int), e) := by
        intro e h1 h2
        rw [h1, if_neg h2] at hi
        rw [hck, hi, if_neg h2]
      refine LWp.skip ?_
      refine LWp.blockX (fun _ : Unit => formE s.forms k = 0) (fun _ => el [(1, .pi s.enc), (20, formsV s.forms), (21, I s.forms.length), (22, I k)]) (fun _ => []) (fun _ => []) ?_ ?_
      · refine LWp.sx (gs := []) (hs := [.cells f.enc, .lin]) rfl ⟨⟨by omega, by simp [hf]⟩, rfl, ⟨rfl, rfl, rfl, by decide⟩, trivial⟩ ?_
        refine LWp.ent (Ent.freezeLbox (t := 6) rfl) ?_
        refine LWp.seqBlock ?_
        refine LWp.sx (gs := []) (hs := [.ret (B (nameB f.name))]) rfl ⟨name_ev f.name hfw.name, trivial⟩ ?_
        refine LWp.ite rfl (fun h1 => ?_) (fun h1 => ?_)
        · have h1 : nameB f.name = false := by simpa using h1
          refine LWp.sx (gs := []) (hs := []) rfl trivial ?_
          exact LWp.ret (res (bad (by rw [hfe, if_neg (by simp [h1])]) (by decide)) rfl rfl rfl)
        have h1 : nameB f.name = true := by simpa using h1
        rw [if_pos h1] at hfe
        refine LWp.sx (gs := []) (hs := [.retS [formsV (s.forms.take k), .fn (.func 60) [] [.pi f.enc]] (B ((s.forms.take k).any (fun x => x.name == f.name)))]) rfl ⟨⟨⟨trivial, by omega⟩, by simp, by simp; omega⟩, ⟨containsF_ev _ _ _ _ (fun x _ => check1_ev x f), subL_self (by show [AV.sl 2 ((s.forms.map Form.enc).take k), .fn (.func 60) [] [.pi f.enc]] = _; rw [← List.map_take])⟩, trivial⟩ ?_
        refine LWp.ite rfl (fun h2 => ?_) (fun h2 => ?_)
        · rw [if_pos h2] at hfe
          refine LWp.sx (gs := []) (hs := []) rfl trivial ?_
          exact LWp.ret (res (bad hfe (by decide)) rfl rfl rfl)
        rw [if_neg (by simp [h2])] at hfe
        refine LWp.sx (gs := []) (hs := []) rfl trivial ?_
        refine LWp.ite rfl (fun h3 => ?_) (fun h3 => ?_)
        · have h3 : 5 < f.parts.length := by simp at h3; omega
          rw [if_pos h3] at hfe
          refine LWp.sx (gs := []) (hs := []) rfl trivial ?_
          exact LWp.ret (res (bad hfe (by decide)) rfl rfl rfl)
        have h3 : ¬ 5 < f.parts.length := by simp at h3; omega
        rw [if_neg h3] at hfe
        refine LWp.skip ?_
        refine LWp.sx (gs := []) (hs := []) rfl trivial ?_
        refine LWp.block ?_
        refine LWp.loopN (fun j : Nat => j ≤ f.parts.length ∧ failF (partsE f.parts) f.parts.length 0 = failF (partsE f.parts) (f.parts.length - j) j) (fun j => el [(1, .pi s.enc), (5, I k), (20, formsV s.forms), (21, I s.forms.length), (22, I k), (48, partsV f.parts), (49, I f.parts.length), (50, I j)]) (fun _ => []) (fun _ => []) (fun j => f.parts.length - j) 0 ⟨by omega, rfl⟩
          (Ent.el ⟨rfl, rfl, rfl, rfl, rfl, rfl, by show I _ = I _; rw [hpl], rfl, trivial⟩) ?_
        rintro j ⟨hj, hji⟩
        refine LWp.sx (gs := []) (hs := []) rfl trivial ?_
        refine LWp.seq (LWp.ite rfl (fun hje => ?_) (fun hje => ?_))
        · simp only [decide_eq_true_eq, Int.ofNat_lt] at hje
          obtain ⟨p, hp⟩ := ex_get hje
          have hpe : partsE f.parts j = partE p := by simp only [partsE, hp]
          rw [failF_step hje, hpe] at hji
          refine LWp.skip ?_
          refine LWp.blockX (fun _ : Unit => partE p = 0) (fun _ => el [(1, .pi s.enc), (5, I k), (20, formsV s.forms), (21, I s.forms.length), (22, I k), (48, partsV f.parts), (49, I f.parts.length), (50, I j)]) (fun _ => []) (fun _ => []) ?_ ?_
          · refine LWp.sx (gs := []) (hs := [.cells p.enc, .lin]) rfl ⟨⟨by omega, by simp [hp]⟩, rfl, ⟨rfl, rfl, rfl, by decide⟩, trivial⟩ ?_
            refine LWp.ent (Ent.freezeLbox (t := 8) rfl) ?_
            have hpe2 := parted_ev p (hfw.parts p (List.mem_of_getElem? hp))
            generalize partE p = e at hji hpe2
            refine LWp.sx (gs := []) (hs := [.ret (I e)]) rfl ⟨hpe2, trivial⟩ ?_
            refine LWp.sx (gs := []) (hs := []) rfl trivial ?_
            refine LWp.ite rfl (fun h4 => ?_) (fun h4 => ?_)
            · have h4 : e ≠ 0 := by simpa using h4
              rw [if_neg h4] at hji
              rw [hji] at hfe
              refine LWp.sx (gs := []) (hs := []) rfl trivial ?_
              exact LWp.ret (res (bad hfe h4) rfl rfl rfl)
            · have h4 : e = 0 := by simpa using h4
              exact LWp.skip ⟨(), h4, Ent.el ⟨rfl, rfl, rfl, rfl, rfl, rfl, rfl, rfl, trivial⟩⟩
          · intro _ h0
            rw [if_pos h0] at hji
            refine LWp.x (gs := []) (hs := []) rfl ⟨by omega, trivial⟩ ?_
            exact ⟨j + 1, ⟨by omega, hji⟩, by omega, Ent.el ⟨rfl, rfl, rfl, rfl, rfl, rfl, rfl, rfl, trivial⟩⟩
        · simp only [decide_eq_false_iff_not, Int.ofNat_lt] at hje
          refine LWp.exit ⟨(), ?_, Ent.el ⟨rfl, rfl, rfl, rfl, trivial⟩⟩
          rw [hfe, hji, show f.parts.length - j = 0 by omega]; rfl
      · intro _ h0
        rw [if_pos h0] at hi
        refine LWp.x (gs := []) (hs := []) rfl ⟨by omega, trivial⟩ ?_
        exact ⟨k + 1, ⟨by omega, hi⟩, by omega, Ent.el ⟨rfl, rfl, rfl, rfl, trivial⟩⟩
    · simp only [decide_eq_false_iff_not, Int.ofNat_lt] at he
      refine LWp.exit ⟨(), ?_, Ent.el trivial⟩
      rw [hi, show s.forms.length - k = 0 by omega]; rfl
  · intro _ h0
    refine LWp.sx (gs := []) (hs := []) rfl trivial ?_
    exact LWp.ret (res (p := 0) (q := 0) (r := 0) (by rw [hck, if_pos h0]) rfl rfl rfl)
end Go.Px

namespace Go.Px
open Go.Proofs
abbrev roomsV (l : List (Int × Int)) : AV := .sl 2 (l.map fun r => [I r.1, I r.2])
theorem roomsL_snoc (ps : List Part) (p : Part) : roomsL (ps ++ [p]) = if p.roomy = true then roomsL ps ++ [(p.lo, p.hi)] else roomsL ps := by
  unfold roomsL
  rw [List.filter_append, List.map_append]
  by_cases h : p.roomy = true
  · simp [h]
  · simp [h]
theorem roomsL_len (ps : List Part) : (roomsL ps).length ≤ ps.length := by
  unfold roomsL
  rw [List.length_map]
  exact List.length_filter_le _ _
end Go.Px

namespace Go.Px
open Go.Proofs
/-- What the error of a form's number means. -/
theorem formI_iff {s : Shelf} {n : Int} (h : formI s n = 0) : (checkS s).2.2 = 0 ∧ ShelfV s ∧ 0 ≤ n ∧ n.toNat < s.forms.length ∧ s.forms.length ≤ 4 ∧ ∃ f, s.forms[n.toNat]? = some f ∧ FormV f ∧ partsOf s n = f.parts := by
  unfold formI at h
  split at h
  · rename_i h0
    have V := shelf_iff.1 h0
    split at h
    · cases h
    · rename_i hb
      simp only [beyondB, List.any_cons, List.any_nil, Bool.or_false, Bool.or_eq_true, decide_eq_true_eq, not_or] at hb
      have hlt : n.toNat < s.forms.length := by omega
      obtain ⟨f, hf⟩ := ex_get hlt
      exact ⟨h0, V, by omega, hlt, V.f4, f, hf, (V.forms f (List.mem_of_getElem? hf)).2, by simp only [partsOf, hf]⟩
  · rename_i h0
    exact absurd h h0
theorem built_small {f : Form} (hv : FormV f) {fs : List (List Wd)} (h : putE (roomsL f.parts) fs = 0) : fs.length = (roomsL f.parts).length ∧ (builtF f.parts fs).length ≤ 15 := by
  obtain ⟨h1, h2⟩ := putE_zero.1 h
  have hl := inR_len h1
  rw [List.length_map] at hl
  refine ⟨hl, ?_⟩
  have := built_len f.parts fs (fun p hp => (hv.parts p hp).w3) ?_
  · have := hv.p5
    omega
  · intro x hx
    obtain ⟨i, hi⟩ := List.mem_iff_getElem?.1 hx
    have hil := (List.getElem?_eq_some_iff.1 hi).1
    obtain ⟨r, hr⟩ := ex_get (l := roomsL f.parts) (k := i) (by omega)
    have h3 := inR_get h1 hr (m := x.length) (by rw [List.getElem?_map, hi]; rfl)
    have h4 := rooms_ok hv.parts r (List.mem_of_getElem? hr)
    omega
end Go.Px

namespace Go.Px
open Go.Proofs
theorem eq_of_all {α : Type} {l m : List α} (h : l.length = m.length) (k : Nat) (hk : l.length ≤ k) (hi : ∀ i, i < k → l[i]? = m[i]?) : l = m := by
  apply List.ext_getElem?
  intro i
  by_cases hik : i < k
  · exact hi i hik
  · rw [List.getElem?_eq_none (by omega), List.getElem?_eq_none (by omega)]
theorem rsame_ev (l m : List Wd) : Ev Try.prog 20 [strs l, strs m] (B (l == m)) := by
  refine Ev.intro fn20 ?_
  refine LWp.slLen 0 rfl fun hll => ?_
  have hl : (l.map fun s => [Str s]).length = l.length := List.length_map _
  have hm : (m.map fun s => [Str s]).length = m.length := List.length_map _
  refine LWp.sx (gs := []) (hs := []) rfl trivial ?_
  refine LWp.seq (LWp.seq ?_)
  refine LWp.x (gs := []) (hs := []) rfl trivial ?_
  refine LWp.ite rfl (fun hc => ?_) (fun hc => ?_)
  · have hc : l.length ≠ m.length := by
      intro e
      simp [e] at hc
    refine LWp.sx (gs := []) (hs := []) rfl trivial ?_
    refine LWp.ret (retT (.inr rfl) (.one (.tmp ?_ rfl)))
    show B _ = B _
    have : l ≠ m := fun e => hc (by rw [e])
    simp [this]
  have hc : l.length = m.length := by
    simp at hc; omega
  refine LWp.skip ?_
  refine LWp.seq (LWp.seq ?_)
  refine LWp.x (gs := []) (hs := []) rfl trivial ?_
  refine LWp.blockT (fun _ : Unit => l = m) (fun _ => el []) (fun _ => []) (fun _ => []) ?_ ?_
  · refine LWp.loopN (fun k : Nat => k ≤ l.length ∧ ∀ i, i < k → l[i]? = m[i]?) (fun k => el [(0, strs l), (1, strs m), (5, I k)]) (fun _ => []) (fun _ => []) (fun k => l.length - k) 0 ⟨by omega, fun i hi => by omega⟩
      (Ent.el ⟨rfl, rfl, rfl, trivial⟩) ?_
    rintro k ⟨hk, hi⟩
    refine LWp.seq (LWp.seq ?_)
    refine LWp.x (gs := []) (hs := []) rfl trivial ?_
    refine LWp.ite rfl (fun he => ?_) (fun he => ?_)
    · simp only [List.length_map, decide_eq_true_eq, Int.ofNat_lt] at he
      obtain ⟨x, hx⟩ := ex_get he
      obtain ⟨y, hy⟩ := ex_get (l := m) (k := k) (by omega)
      refine LWp.skip ?_
      refine LWp.blockX (fun _ : Unit => x = y) (fun _ => el [(0, strs l), (1, strs m), (5, I k)]) (fun _ => []) (fun _ => []) ?_ ?_
      · refine LWp.seq ?_
        refine LWp.dd (gs := []) (hs := [.cells [Str x], .cells [Str y]]) hmix rfl (by kernel_rfl) ⟨⟨by omega, by simp [hx]⟩, ⟨by omega, by simp [hy]⟩, trivial⟩ ?_
        refine LWp.ite rfl (fun hb => ?_) (fun hb => ?_)
        · have hb : x ≠ y := by intro e; subst e; simp at hb
          refine LWp.sx (gs := []) (hs := []) rfl trivial ?_
          refine LWp.ret (retT (.inr rfl) (.one (.tmp ?_ rfl)))
          show B _ = B _
          have : l ≠ m := by
            intro e
            rw [e, hy] at hx
            exact hb (Option.some.inj hx).symm
          simp [this]
        · have hb : x = y := by simpa using hb
          exact LWp.skip ⟨(), hb, Ent.el ⟨rfl, rfl, rfl, trivial⟩⟩
      intro _ h0
      refine LWp.x (gs := []) (hs := []) rfl ⟨by omega, trivial⟩ ?_
      refine ⟨k + 1, ⟨by omega, ?_⟩, by omega, Ent.el ⟨rfl, rfl, rfl, trivial⟩⟩
      intro i h
      by_cases hik : i < k
      · exact hi i hik
      · have : i = k := by omega
        subst this
        rw [hx, hy, h0]
    · simp only [List.length_map, decide_eq_false_iff_not, Int.ofNat_lt] at he
      exact LWp.exit ⟨(), eq_of_all hc k (by omega) hi, Ent.el trivial⟩
  intro _ h0
  refine LWp.sx (gs := []) (hs := []) rfl trivial ?_
  refine LWp.ret (retT (.inr rfl) (.one (.tmp ?_ rfl)))
  show B _ = B _
  simp [h0]
theorem rsames_ev (l m : List (List Wd)) : Ev Try.prog 27 [fillsV l, fillsV m] (B (l == m)) := by
  refine Ev.intro fn27 ?_
  refine LWp.slLen 0 rfl fun hll => ?_
  have hl : (l.map fun s => [strs s]).length = l.length := List.length_map _
  have hm : (m.map fun s => [strs s]).length = m.length := List.length_map _
  refine LWp.sx (gs := []) (hs := []) rfl trivial ?_
  refine LWp.seq (LWp.seq ?_)
  refine LWp.x (gs := []) (hs := []) rfl trivial ?_
  refine LWp.ite rfl (fun hc => ?_) (fun hc => ?_)
  · have hc : l.length ≠ m.length := by
      intro e
      simp [e] at hc
    refine LWp.sx (gs := []) (hs := []) rfl trivial ?_
    refine LWp.ret (retT (.inr rfl) (.one (.tmp ?_ rfl)))
    show B _ = B _
    have : l ≠ m := fun e => hc (by rw [e])
    simp [this]
  have hc : l.length = m.length := by
    simp at hc; omega
  refine LWp.skip ?_
  refine LWp.seq (LWp.seq ?_)
  refine LWp.x (gs := []) (hs := []) rfl trivial ?_
  refine LWp.blockT (fun _ : Unit => l = m) (fun _ => el []) (fun _ => []) (fun _ => []) ?_ ?_
  · refine LWp.loopN (fun k : Nat => k ≤ l.length ∧ ∀ i, i < k → l[i]? = m[i]?) (fun k => el [(0, fillsV l), (1, fillsV m), (5, I k)]) (fun _ => []) (fun _ => []) (fun k => l.length - k) 0 ⟨by omega, fun i hi => by omega⟩
      (Ent.el ⟨rfl, rfl, rfl, trivial⟩) ?_
    rintro k ⟨hk, hi⟩
    refine LWp.seq (LWp.seq ?_)
    refine LWp.x (gs := []) (hs := []) rfl trivial ?_
    refine LWp.ite rfl (fun he => ?_) (fun he => ?_)
    · simp only [List.length_map, decide_eq_true_eq, Int.ofNat_lt] at he
      obtain ⟨x, hx⟩ := ex_get he
      obtain ⟨y, hy⟩ := ex_get (l := m) (k := k) (by omega)
      refine LWp.skip ?_
      refine LWp.blockX (fun _ : Unit => x = y) (fun _ => el [(0, fillsV l), (1, fillsV m), (5, I k)]) (fun _ => []) (fun _ => []) ?_ ?_
      · refine LWp.seq ?_
        refine LWp.dd (gs := []) (hs := [.cells [strs x], .cells [strs y], .ret (B (x == y))]) hmix rfl (by kernel_rfl) ⟨⟨by omega, by simp [hx]⟩, ⟨by omega, by simp [hy]⟩, rsame_ev x y, trivial⟩ ?_
        refine LWp.ite rfl (fun hb => ?_) (fun hb => ?_)
        · have hb : x ≠ y := by intro e; subst e; simp at hb
          refine LWp.sx (gs := []) (hs := []) rfl trivial ?_
          refine LWp.ret (retT (.inr rfl) (.one (.tmp ?_ rfl)))
          show B _ = B _
          have : l ≠ m := by
            intro e
            rw [e, hy] at hx
            exact hb (Option.some.inj hx).symm
          simp [this]
        · have hb : x = y := by simpa using hb
          exact LWp.skip ⟨(), hb, Ent.el ⟨rfl, rfl, rfl, trivial⟩⟩
      intro _ h0
      refine LWp.x (gs := []) (hs := []) rfl ⟨by omega, trivial⟩ ?_
      refine ⟨k + 1, ⟨by omega, ?_⟩, by omega, Ent.el ⟨rfl, rfl, rfl, trivial⟩⟩
      intro i h
      by_cases hik : i < k
      · exact hi i hik
      · have : i = k := by omega
        subst this
        rw [hx, hy, h0]
    · simp only [List.length_map, decide_eq_false_iff_not, Int.ofNat_lt] at he
      exact LWp.exit ⟨(), eq_of_all hc k (by omega) hi, Ent.el trivial⟩
  intro _ h0
  refine LWp.sx (gs := []) (hs := []) rfl trivial ?_
  refine LWp.ret (retT (.inr rfl) (.one (.tmp ?_ rfl)))
  show B _ = B _
  simp [h0]
end Go.Px

namespace Go.Px
open Go.Proofs
theorem shape_built : ∀ (ps : List Part) (ms : List Nat), ms.length = (roomsL ps).length → shapeF ps ms = builtF ps (ms.map blanks)
  | [], ms, h => by simp [shapeF, builtF]
  | p :: ps, ms, h => by
    rw [roomsL_cons] at h
    simp only [shapeF, builtF]
    by_cases hp : p.roomy = true
    · rw [if_pos hp] at h
      rw [if_pos hp, if_pos hp]
      cases ms with
      | nil => simp at h
      | cons m ms =>
        simp only [List.length_cons, Nat.add_right_cancel_iff] at h
        rw [List.headD_cons, List.tail_cons, List.map_cons, List.headD_cons, List.tail_cons, shape_built ps ms h]
    · rw [if_neg hp] at h
      rw [if_neg hp, if_neg hp, shape_built ps ms h]
end Go.Px

namespace Go.Px
open Go.Proofs
theorem shape_small {f : Form} (hv : FormV f) {ms : List Nat} (h : ms ∈ cnts (roomsL f.parts)) : ms.length = (roomsL f.parts).length ∧ (∀ m ∈ ms, m ≤ 3) ∧ (shapeF f.parts ms).length ≤ 15 := by
  have hl := cnts_len h
  have hro := rooms_ok hv.parts
  have hin := (cnts_iff (fun r hr => (hro r hr).1)).1 h
  have h3 : ∀ m ∈ ms, m ≤ 3 := by
    intro m hm
    obtain ⟨i, hi⟩ := List.mem_iff_getElem?.1 hm
    have hil := (List.getElem?_eq_some_iff.1 hi).1
    obtain ⟨r, hr⟩ := ex_get (l := roomsL f.parts) (k := i) (by omega)
    have h4 := inR_get hin hr hi
    have h5 := hro r (List.mem_of_getElem? hr)
    omega
  refine ⟨hl, h3, ?_⟩
  rw [shape_built f.parts ms hl]
  have := built_len f.parts (ms.map blanks) (fun p hp => (hv.parts p hp).w3) ?_
  · have := hv.p5
    omega
  · intro x hx
    obtain ⟨m, hm, rfl⟩ := List.mem_map.1 hx
    simp only [blanks, List.length_replicate]
    exact h3 m hm
end Go.Px

namespace Go.Px
open Go.Proofs
theorem cc_t1 : Try.prog.underlying 158 = some (.pointer 160) := by kernel_rfl
theorem cc_t2 : Try.prog.underlying 181 = some .unsafePointer := by kernel_rfl
theorem cc_i : ((Try.prog.info? 160).map fun i => i.size) = some 2 := by kernel_rfl
theorem cc_lies : liesAt Try.prog Try.prog.depth 160 (2 / Try.prog.cellsOf 160) 0 160 1 = true := by kernel_rfl
set_option maxHeartbeats 1000000 in
set_option maxRecDepth 100000 in
theorem cc_used (b : Nat) (w : World) (h0 : w.cell? ⟨b, 0, none⟩ = some (.pointer (some ⟨b, 0, none⟩))) :
    Calls Try.prog 130 #[.pointer (some ⟨b, 0, none⟩)] w fun e w' => e = .returned (.tuple #[]) ∧ w' = w := by
  obtain ⟨j, hj, _⟩ := Option.map_eq_some_iff.1 cc_i
  go_enter Try.func130, Try.ntmps130
  go_wp2
  rw [Lib.run_neq_ptr_same w _ cc_t1 hj]
  go_wp2
  go_end0
  exact ⟨rfl, rfl⟩
set_option maxHeartbeats 1000000 in
set_option maxRecDepth 100000 in
theorem cc_fresh (b : Nat) (w : World) (h0 : w.cell? ⟨b, 0, none⟩ = some (.pointer none)) (hsh : w.shape? b = some (160, 2)) (hfz : w.frozen? ⟨b, 0, none⟩ = false) :
    Calls Try.prog 130 #[.pointer (some ⟨b, 0, none⟩)] w fun e w' => e = .returned (.tuple #[]) ∧ w' = w.setCell ⟨b, 0, none⟩ (.pointer (some ⟨b, 0, none⟩)) := by
  obtain ⟨j, hj, hjs⟩ := Option.map_eq_some_iff.1 cc_i
  go_enter Try.func130, Try.ntmps130
  go_wp2
  rw [Lib.run_to_unsafe w ⟨b, 0, none⟩ cc_t1 cc_t2 hj (by rw [hjs]; decide) hsh (Nat.zero_lt_succ 1)]
  simp only [Result.andThen]
  rw [Oper.upon_value]
  go_wp2
  rw [run_callFunc_extern Try.func131 (by kernel_rfl) (by kernel_rfl) (by kernel_rfl) (e := Extern.AbiNoEscape.same) (by kernel_rfl)]
  rw [Lib.run_noEscape]
  simp only [Result.andThen]
  rw [Oper.upon_value]
  go_wp2
  rw [Lib.run_from_unsafe w ⟨b, 0, none⟩ cc_t2 cc_t1 hj hsh cc_lies]
  simp only [Result.andThen]
  rw [Oper.upon_value]
  go_wp2
  go_end0
  exact ⟨rfl, rfl⟩
theorem copyCheck_ok : CallOK Try.prog 130 := ⟨_, Try.func130, by kernel_rfl, by kernel_rfl⟩
/-- 'copyCheck': behind it the builder bears its own address. -/
theorem copyCheck_ev (b : Nat) (c0 x : AV) (h : c0 = .v (.pointer none) ∨ c0 = .po b 0) : EvR Try.prog 130 [.po b 0] [(b, .cells 160 [c0, x])] (fun _ Ho => Ho = [(b, .cells 160 [.po b 0, x])]) := by
  refine ⟨copyCheck_ok, ?_⟩
  intro S w vs hin hargs hown hnd
  simp only [RepL, Rep] at hargs
  obtain ⟨c, cs', rfl, rfl, rfl⟩ := hargs
  have ho := hown _ (List.mem_singleton.2 rfl)
  obtain ⟨o, hrow, hh⟩ := ho.holds
  obtain ⟨cs, rfl, hr, h1⟩ := hh
  simp only [RepL] at hr
  obtain ⟨v0, r1, rfl, hv0, v1, r2, rfl, hv1, rfl⟩ := hr
  have e1 : w.cell? ⟨b, 0, none⟩ = some v0 := by rw [Lib.cell_of_heap hrow]; rfl
  rcases h with rfl | rfl
  · simp only [Rep] at hv0
    subst hv0
    refine (cc_fresh b w e1 (by simp [World.shape?, hrow]) (Lib.frozen_of_heap hrow 0)).mono ?_
    rintro e w' ⟨rfl, rfl⟩
    have hother : ∀ g, g ≠ b → (w.setCell ⟨b, 0, none⟩ (.pointer (some ⟨b, 0, none⟩))).heap[g]? = w.heap[g]? := by
      intro g hg
      simp only [World.setCell, Array.getElem?_modify]
      rw [if_neg (fun e => hg e.symm)]
    have hself : (w.setCell ⟨b, 0, none⟩ (.pointer (some ⟨b, 0, none⟩))).heap[b]? = some (.cells #[.pointer (some ⟨b, 0, none⟩), v1] 160 (0, 0)) := by
      simp only [World.setCell, Array.getElem?_modify, hrow, if_true, Option.map_some]
      rfl
    refine ⟨.tuple #[], S, none, .tup [], [(b, .cells 160 [.po b 0, x])], rfl, rfl, Snap.Le.refl S, hin.of_agree (fun g hg => hother g (fun e => ho.apart (e ▸ hg))), fun _ hb => .inl hb, ?_, RepT.of_rep rfl (by simp only [Rep]; exact ⟨[], rfl, by simp [RepL]⟩), ?_, by simp, fun _ e => by cases e⟩
    · exact ⟨rfl, rfl, rfl, by simp [World.setCell], fun g _ hg => hother g (fun e => hg (.inr (by simp [e])))⟩
    · intro e he
      rw [List.mem_singleton] at he
      subst he
      refine ⟨.inr (by simp), ho.apart, _, hself, [.pointer (some ⟨b, 0, none⟩), v1], rfl, ?_, ?_⟩
      · simp only [RepL, Rep]
        exact ⟨_, _, rfl, rfl, _, _, rfl, hv1, rfl⟩
      · intro c hc
        simp only [List.mem_cons, List.not_mem_nil, or_false] at hc
        rcases hc with rfl | rfl
        · rfl
        · exact h1 _ (by simp)
  · simp only [Rep] at hv0
    subst hv0
    refine (cc_used b w e1).mono ?_
    rintro e w' ⟨rfl, rfl⟩
    refine ⟨.tuple #[], S, none, .tup [], [(b, .cells 160 [.po b 0, x])], rfl, rfl, Snap.Le.refl S, hin, fun _ hb => .inl hb, BelowA.refl _ _, RepT.of_rep rfl (by simp only [Rep]; exact ⟨[], rfl, by simp [RepL]⟩), ?_, by simp, fun _ e => by cases e⟩
    intro e he
    rw [List.mem_singleton] at he
    subst he
    refine ⟨.inr (by simp), ho.apart, _, hrow, [.pointer (some ⟨b, 0, none⟩), v1], rfl, ?_, h1⟩
    simp only [RepL, Rep]
    exact ⟨_, _, rfl, rfl, _, _, rfl, hv1, rfl⟩
/-- A builder: what it holds is nothing, or lies in a row of its own. -/
def bldH (b : Nat) (c0 : AV) : Option (Nat × Nat) → List UInt8 → Heap
  | none, _ => [(b, .cells 160 [c0, .nil])]
  | some (g, cap), l => [(b, .cells 160 [c0, .so g l.length cap]), (g, .arr 5 1 cap (l.map fun c => [U c.toNat]))]
def BldOK : Option (Nat × Nat) → List UInt8 → Prop
  | none, l => l = []
  | some _, l => l ≠ []
end Go.Px

