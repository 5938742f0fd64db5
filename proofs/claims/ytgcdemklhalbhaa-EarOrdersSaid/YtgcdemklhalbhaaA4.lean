/- Part 4 of the proof of the statements of this seat (a logic of pure contracts, the functions lowered, their contracts, the statements). No conditions. -/
import Derived.Test.YtgcdemklhalbhaaA3
import Derived.Test.YtgcdemklhalbhaaChecked
import Derived.KernelRfl
namespace Go.Px
open Go.Proofs
abbrev tm (n : Nat) : Operand := .tmp n
abbrev kc (n : Int) : Operand := .const (.int .i64 n)
set_option maxRecDepth 100000

theorem hmix : Try.prog.follows .mixedOrders = true := by kernel_rfl
def L3 : LCode :=
 (.seq
 (.ops [⟨(some 2), none, .box 25 (tm 0)⟩,
   ⟨(some 4), none, .mov (.const (.bool false))⟩])
 (.seq
 (.ops [⟨(some 12), none, .load 25 (tm 2) (some 3)⟩,
   ⟨(some 13), none, .call 17 [(tm 12)] 27⟩,
   ⟨(some 11), none, .mov (tm 13)⟩,
   ⟨(some 14), none, .extract (tm 11) 0⟩,
   ⟨(some 15), none, .extract (tm 11) 1⟩,
   ⟨(some 16), none, .extract (tm 11) 2⟩,
   ⟨(some 5), none, .mov (tm 14)⟩,
   ⟨(some 6), none, .mov (tm 15)⟩,
   ⟨(some 7), none, .mov (tm 16)⟩])
 (.seq
 (.ops [⟨(some 18), none, .load 25 (tm 2) (some 3)⟩,
   ⟨(some 19), none, .call 18 [(tm 18)] 27⟩,
   ⟨(some 17), none, .mov (tm 19)⟩,
   ⟨(some 20), none, .extract (tm 17) 0⟩,
   ⟨(some 21), none, .extract (tm 17) 1⟩,
   ⟨(some 22), none, .extract (tm 17) 2⟩,
   ⟨(some 8), none, .mov (tm 20)⟩,
   ⟨(some 9), none, .mov (tm 21)⟩,
   ⟨(some 10), none, .mov (tm 22)⟩])
 (.seq
 (.ops [⟨(some 23), none, .mov (tm 5)⟩,
   ⟨(some 24), none, .mov (tm 8)⟩,
   ⟨(some 25), none, .bin .eql 3 (tm 23) (tm 24)⟩,
   ⟨(some 26), none, .mov (tm 25)⟩,
   ⟨(some 27), some (26, true), .mov (tm 6)⟩,
   ⟨(some 28), some (26, true), .mov (tm 9)⟩,
   ⟨(some 29), some (26, true), .bin .eql 3 (tm 27) (tm 28)⟩,
   ⟨(some 30), none, .pick (tm 26) (tm 29) (.const (.bool false))⟩,
   ⟨(some 31), none, .mov (tm 30)⟩,
   ⟨(some 32), some (31, true), .mov (tm 7)⟩,
   ⟨(some 33), some (31, true), .mov (tm 10)⟩,
   ⟨(some 34), some (31, true), .bin .eql 26 (tm 32) (tm 33)⟩,
   ⟨(some 35), none, .pick (tm 31) (tm 34) (.const (.bool false))⟩,
   ⟨(some 36), none, .mov (tm 35)⟩,
   ⟨(some 37), some (36, true), .mov (tm 1)⟩,
   ⟨(some 38), some (36, true), .call 19 [(tm 37)] 4⟩,
   ⟨(some 39), some (36, true), .mov (tm 1)⟩,
   ⟨(some 40), some (36, true), .call 20 [(tm 39)] 4⟩,
   ⟨(some 41), some (36, true), .eqT false 4 (tm 38) (tm 40)⟩,
   ⟨(some 42), none, .pick (tm 36) (tm 41) (.const (.bool false))⟩,
   ⟨(some 43), none, .mov (tm 42)⟩,
   ⟨(some 44), some (43, true), .call 21 [] 4⟩,
   ⟨(some 45), none, .pick (tm 43) (tm 44) (.const (.bool false))⟩,
   ⟨(some 4), none, .mov (tm 45)⟩])
 .ret))))
theorem fn3 : FnOK Try.prog 3 46 [.tmp 4] L3 := ⟨Try.f3, Try.func3, by kernel_rfl, Try.ntmps3, by rw [Try.results3], by kernel_rfl⟩
def L4 : LCode :=
 (.seq
 (.ops [⟨(some 3), none, .box 25 (tm 0)⟩,
   ⟨(some 6), none, .mov (.const (.bool false))⟩])
 (.seq
 (.ops [⟨(some 16), none, .load 25 (tm 3) (some 3)⟩,
   ⟨(some 17), none, .mov (tm 1)⟩,
   ⟨(some 18), none, .call 22 [(tm 16), (tm 17)] 33⟩,
   ⟨(some 15), none, .mov (tm 18)⟩,
   ⟨(some 19), none, .extract (tm 15) 0⟩,
   ⟨(some 20), none, .extract (tm 15) 1⟩,
   ⟨(some 7), none, .mov (tm 19)⟩,
   ⟨(some 8), none, .mov (tm 20)⟩])
 (.seq
 (.ops [⟨(some 22), none, .load 25 (tm 3) (some 3)⟩,
   ⟨(some 23), none, .mov (tm 1)⟩,
   ⟨(some 24), none, .call 23 [(tm 22), (tm 23)] 33⟩,
   ⟨(some 21), none, .mov (tm 24)⟩,
   ⟨(some 25), none, .extract (tm 21) 0⟩,
   ⟨(some 26), none, .extract (tm 21) 1⟩,
   ⟨(some 9), none, .mov (tm 25)⟩,
   ⟨(some 10), none, .mov (tm 26)⟩])
 (.seq
 (.seq
 (.ops [⟨(some 27), none, .mov (tm 7)⟩,
   ⟨(some 28), none, .mov (tm 9)⟩,
   ⟨(some 29), none, .bin .neq 3 (tm 27) (tm 28)⟩,
   ⟨(some 30), none, .mov (tm 29)⟩,
   ⟨(some 31), some (30, false), .mov (tm 8)⟩,
   ⟨(some 32), some (30, false), .mov (tm 10)⟩,
   ⟨(some 33), some (30, false), .bin .neq 26 (tm 31) (tm 32)⟩,
   ⟨(some 34), none, .pick (tm 30) (.const (.bool true)) (tm 33)⟩])
 (.ite (tm 34)
  (.seq
  (.ops [⟨(some 6), none, .mov (.const (.bool false))⟩])
  .ret)
  .skip))
 (.seq
 (.ops [⟨(some 36), none, .load 25 (tm 3) (some 3)⟩,
   ⟨(some 37), none, .mov (tm 1)⟩,
   ⟨(some 38), none, .call 24 [(tm 36), (tm 37)] 35⟩,
   ⟨(some 35), none, .mov (tm 38)⟩,
   ⟨(some 39), none, .extract (tm 35) 0⟩,
   ⟨(some 40), none, .extract (tm 35) 1⟩,
   ⟨(some 11), none, .mov (tm 39)⟩,
   ⟨(some 8), none, .mov (tm 40)⟩])
 (.seq
 (.ops [⟨(some 42), none, .load 25 (tm 3) (some 3)⟩,
   ⟨(some 43), none, .mov (tm 1)⟩,
   ⟨(some 44), none, .call 25 [(tm 42), (tm 43)] 35⟩,
   ⟨(some 41), none, .mov (tm 44)⟩,
   ⟨(some 45), none, .extract (tm 41) 0⟩,
   ⟨(some 46), none, .extract (tm 41) 1⟩,
   ⟨(some 12), none, .mov (tm 45)⟩,
   ⟨(some 10), none, .mov (tm 46)⟩])
 (.seq
 (.seq
 (.ops [⟨(some 47), none, .mov (tm 11)⟩,
   ⟨(some 48), none, .mov (tm 12)⟩,
   ⟨(some 49), none, .call 26 [(tm 47), (tm 48)] 4⟩,
   ⟨(some 50), none, .un .not (tm 49)⟩,
   ⟨(some 51), none, .mov (tm 50)⟩,
   ⟨(some 52), some (51, false), .mov (tm 8)⟩,
   ⟨(some 53), some (51, false), .mov (tm 10)⟩,
   ⟨(some 54), some (51, false), .bin .neq 26 (tm 52) (tm 53)⟩,
   ⟨(some 55), none, .pick (tm 51) (.const (.bool true)) (tm 54)⟩])
 (.ite (tm 55)
  (.seq
  (.ops [⟨(some 6), none, .mov (.const (.bool false))⟩])
  .ret)
  .skip))
 (.seq
 (.ops [⟨(some 57), none, .load 25 (tm 3) (some 3)⟩,
   ⟨(some 58), none, .mov (tm 1)⟩,
   ⟨(some 59), none, .mov (tm 2)⟩,
   ⟨(some 60), none, .call 27 [(tm 57), (tm 58), (tm 59)] 38⟩,
   ⟨(some 56), none, .mov (tm 60)⟩,
   ⟨(some 61), none, .extract (tm 56) 0⟩,
   ⟨(some 62), none, .extract (tm 56) 1⟩,
   ⟨(some 13), none, .mov (tm 61)⟩,
   ⟨(some 8), none, .mov (tm 62)⟩])
 (.seq
 (.ops [⟨(some 64), none, .load 25 (tm 3) (some 3)⟩,
   ⟨(some 65), none, .mov (tm 1)⟩,
   ⟨(some 66), none, .mov (tm 2)⟩,
   ⟨(some 67), none, .call 28 [(tm 64), (tm 65), (tm 66)] 38⟩,
   ⟨(some 63), none, .mov (tm 67)⟩,
   ⟨(some 68), none, .extract (tm 63) 0⟩,
   ⟨(some 69), none, .extract (tm 63) 1⟩,
   ⟨(some 14), none, .mov (tm 68)⟩,
   ⟨(some 10), none, .mov (tm 69)⟩])
 (.seq
 (.ops [⟨(some 70), none, .mov (tm 13)⟩,
   ⟨(some 71), none, .mov (tm 14)⟩,
   ⟨(some 72), none, .eqT false 4 (tm 70) (tm 71)⟩,
   ⟨(some 73), none, .mov (tm 72)⟩,
   ⟨(some 74), some (73, true), .mov (tm 8)⟩,
   ⟨(some 75), some (73, true), .mov (tm 10)⟩,
   ⟨(some 76), some (73, true), .bin .eql 26 (tm 74) (tm 75)⟩,
   ⟨(some 77), none, .pick (tm 73) (tm 76) (.const (.bool false))⟩,
   ⟨(some 78), none, .mov (tm 77)⟩,
   ⟨(some 79), some (78, true), .call 21 [] 4⟩,
   ⟨(some 80), none, .pick (tm 78) (tm 79) (.const (.bool false))⟩,
   ⟨(some 6), none, .mov (tm 80)⟩])
 .ret))))))))))
theorem fn4 : FnOK Try.prog 4 81 [.tmp 6] L4 := ⟨Try.f4, Try.func4, by kernel_rfl, Try.ntmps4, by rw [Try.results4], by kernel_rfl⟩
def L5 : LCode :=
 (.seq
 (.ops [⟨(some 2), none, .box 25 (tm 0)⟩,
   ⟨(some 3), none, .box 41 (tm 1)⟩,
   ⟨(some 4), none, .mov (.const (.bool false))⟩])
 (.seq
 (.ops [⟨(some 12), none, .load 25 (tm 2) (some 3)⟩,
   ⟨(some 13), none, .iaddrA 41 (tm 3) (kc 0) 2 1⟩,
   ⟨(some 14), none, .load 3 (tm 13) none⟩,
   ⟨(some 15), none, .iaddrA 41 (tm 3) (kc 1) 2 1⟩,
   ⟨(some 16), none, .load 3 (tm 15) none⟩,
   ⟨(some 17), none, .call 29 [(tm 12), (tm 14), (tm 16)] 33⟩,
   ⟨(some 11), none, .mov (tm 17)⟩,
   ⟨(some 18), none, .extract (tm 11) 0⟩,
   ⟨(some 19), none, .extract (tm 11) 1⟩,
   ⟨(some 5), none, .mov (tm 18)⟩,
   ⟨(some 6), none, .mov (tm 19)⟩])
 (.seq
 (.ops [⟨(some 21), none, .load 25 (tm 2) (some 3)⟩,
   ⟨(some 22), none, .iaddrA 41 (tm 3) (kc 0) 2 1⟩,
   ⟨(some 23), none, .load 3 (tm 22) none⟩,
   ⟨(some 24), none, .iaddrA 41 (tm 3) (kc 1) 2 1⟩,
   ⟨(some 25), none, .load 3 (tm 24) none⟩,
   ⟨(some 26), none, .call 30 [(tm 21), (tm 23), (tm 25)] 33⟩,
   ⟨(some 20), none, .mov (tm 26)⟩,
   ⟨(some 27), none, .extract (tm 20) 0⟩,
   ⟨(some 28), none, .extract (tm 20) 1⟩,
   ⟨(some 7), none, .mov (tm 27)⟩,
   ⟨(some 8), none, .mov (tm 28)⟩])
 (.seq
 (.seq
 (.ops [⟨(some 29), none, .mov (tm 5)⟩,
   ⟨(some 30), none, .mov (tm 7)⟩,
   ⟨(some 31), none, .bin .neq 3 (tm 29) (tm 30)⟩,
   ⟨(some 32), none, .mov (tm 31)⟩,
   ⟨(some 33), some (32, false), .mov (tm 6)⟩,
   ⟨(some 34), some (32, false), .mov (tm 8)⟩,
   ⟨(some 35), some (32, false), .bin .neq 26 (tm 33) (tm 34)⟩,
   ⟨(some 36), none, .pick (tm 32) (.const (.bool true)) (tm 35)⟩])
 (.ite (tm 36)
  (.seq
  (.ops [⟨(some 4), none, .mov (.const (.bool false))⟩])
  .ret)
  .skip))
 (.seq
 (.ops [⟨(some 38), none, .load 25 (tm 2) (some 3)⟩,
   ⟨(some 39), none, .call 31 [(tm 38)] 35⟩,
   ⟨(some 37), none, .mov (tm 39)⟩,
   ⟨(some 40), none, .extract (tm 37) 0⟩,
   ⟨(some 41), none, .extract (tm 37) 1⟩,
   ⟨(some 9), none, .mov (tm 40)⟩,
   ⟨(some 6), none, .mov (tm 41)⟩])
 (.seq
 (.ops [⟨(some 43), none, .load 25 (tm 2) (some 3)⟩,
   ⟨(some 44), none, .call 32 [(tm 43)] 35⟩,
   ⟨(some 42), none, .mov (tm 44)⟩,
   ⟨(some 45), none, .extract (tm 42) 0⟩,
   ⟨(some 46), none, .extract (tm 42) 1⟩,
   ⟨(some 10), none, .mov (tm 45)⟩,
   ⟨(some 8), none, .mov (tm 46)⟩])
 (.seq
 (.ops [⟨(some 47), none, .mov (tm 9)⟩,
   ⟨(some 48), none, .mov (tm 10)⟩,
   ⟨(some 49), none, .call 26 [(tm 47), (tm 48)] 4⟩,
   ⟨(some 50), none, .mov (tm 49)⟩,
   ⟨(some 51), some (50, true), .mov (tm 6)⟩,
   ⟨(some 52), some (50, true), .mov (tm 8)⟩,
   ⟨(some 53), some (50, true), .bin .eql 26 (tm 51) (tm 52)⟩,
   ⟨(some 54), none, .pick (tm 50) (tm 53) (.const (.bool false))⟩,
   ⟨(some 55), none, .mov (tm 54)⟩,
   ⟨(some 56), some (55, true), .call 21 [] 4⟩,
   ⟨(some 57), none, .pick (tm 55) (tm 56) (.const (.bool false))⟩,
   ⟨(some 4), none, .mov (tm 57)⟩])
 .ret)))))))
theorem fn5 : FnOK Try.prog 5 58 [.tmp 4] L5 := ⟨Try.f5, Try.func5, by kernel_rfl, Try.ntmps5, by rw [Try.results5], by kernel_rfl⟩
def L6 : LCode :=
 (.seq
 (.ops [⟨(some 2), none, .box 25 (tm 0)⟩,
   ⟨(some 4), none, .mov (.const (.bool false))⟩])
 (.seq
 (.ops [⟨(some 10), none, .load 25 (tm 2) (some 3)⟩,
   ⟨(some 11), none, .mov (tm 1)⟩,
   ⟨(some 12), none, .call 33 [(tm 10), (tm 11)] 35⟩,
   ⟨(some 9), none, .mov (tm 12)⟩,
   ⟨(some 13), none, .extract (tm 9) 0⟩,
   ⟨(some 14), none, .extract (tm 9) 1⟩,
   ⟨(some 5), none, .mov (tm 13)⟩,
   ⟨(some 6), none, .mov (tm 14)⟩])
 (.seq
 (.ops [⟨(some 16), none, .load 25 (tm 2) (some 3)⟩,
   ⟨(some 17), none, .mov (tm 1)⟩,
   ⟨(some 18), none, .call 34 [(tm 16), (tm 17)] 35⟩,
   ⟨(some 15), none, .mov (tm 18)⟩,
   ⟨(some 19), none, .extract (tm 15) 0⟩,
   ⟨(some 20), none, .extract (tm 15) 1⟩,
   ⟨(some 7), none, .mov (tm 19)⟩,
   ⟨(some 8), none, .mov (tm 20)⟩])
 (.seq
 (.ops [⟨(some 21), none, .mov (tm 5)⟩,
   ⟨(some 22), none, .mov (tm 7)⟩,
   ⟨(some 23), none, .call 26 [(tm 21), (tm 22)] 4⟩,
   ⟨(some 24), none, .mov (tm 23)⟩,
   ⟨(some 25), some (24, true), .mov (tm 6)⟩,
   ⟨(some 26), some (24, true), .mov (tm 8)⟩,
   ⟨(some 27), some (24, true), .bin .eql 26 (tm 25) (tm 26)⟩,
   ⟨(some 28), none, .pick (tm 24) (tm 27) (.const (.bool false))⟩,
   ⟨(some 29), none, .mov (tm 28)⟩,
   ⟨(some 30), some (29, true), .call 21 [] 4⟩,
   ⟨(some 31), none, .pick (tm 29) (tm 30) (.const (.bool false))⟩,
   ⟨(some 4), none, .mov (tm 31)⟩])
 .ret))))
theorem fn6 : FnOK Try.prog 6 32 [.tmp 4] L6 := ⟨Try.f6, Try.func6, by kernel_rfl, Try.ntmps6, by rw [Try.results6], by kernel_rfl⟩
def L7 : LCode :=
 (.seq
 (.ops [⟨(some 3), none, .box 25 (tm 0)⟩,
   ⟨(some 6), none, .mov (.const (.bool false))⟩])
 (.seq
 (.ops [⟨(some 12), none, .load 25 (tm 3) (some 3)⟩,
   ⟨(some 13), none, .mov (tm 1)⟩,
   ⟨(some 14), none, .mov (tm 2)⟩,
   ⟨(some 15), none, .call 35 [(tm 12), (tm 13), (tm 14)] 47⟩,
   ⟨(some 11), none, .mov (tm 15)⟩,
   ⟨(some 16), none, .extract (tm 11) 0⟩,
   ⟨(some 17), none, .extract (tm 11) 1⟩,
   ⟨(some 7), none, .mov (tm 16)⟩,
   ⟨(some 8), none, .mov (tm 17)⟩])
 (.seq
 (.ops [⟨(some 19), none, .load 25 (tm 3) (some 3)⟩,
   ⟨(some 20), none, .mov (tm 1)⟩,
   ⟨(some 21), none, .mov (tm 2)⟩,
   ⟨(some 22), none, .call 36 [(tm 19), (tm 20), (tm 21)] 47⟩,
   ⟨(some 18), none, .mov (tm 22)⟩,
   ⟨(some 23), none, .extract (tm 18) 0⟩,
   ⟨(some 24), none, .extract (tm 18) 1⟩,
   ⟨(some 9), none, .mov (tm 23)⟩,
   ⟨(some 10), none, .mov (tm 24)⟩])
 (.seq
 (.ops [⟨(some 25), none, .mov (tm 7)⟩,
   ⟨(some 26), none, .mov (tm 9)⟩,
   ⟨(some 27), none, .bin .eql 9 (tm 25) (tm 26)⟩,
   ⟨(some 28), none, .mov (tm 27)⟩,
   ⟨(some 29), some (28, true), .mov (tm 8)⟩,
   ⟨(some 30), some (28, true), .mov (tm 10)⟩,
   ⟨(some 31), some (28, true), .bin .eql 26 (tm 29) (tm 30)⟩,
   ⟨(some 32), none, .pick (tm 28) (tm 31) (.const (.bool false))⟩,
   ⟨(some 33), none, .mov (tm 32)⟩,
   ⟨(some 34), some (33, true), .call 21 [] 4⟩,
   ⟨(some 35), none, .pick (tm 33) (tm 34) (.const (.bool false))⟩,
   ⟨(some 6), none, .mov (tm 35)⟩])
 .ret))))
theorem fn7 : FnOK Try.prog 7 36 [.tmp 6] L7 := ⟨Try.f7, Try.func7, by kernel_rfl, Try.ntmps7, by rw [Try.results7], by kernel_rfl⟩
def L8 : LCode :=
 (.seq
 (.ops [⟨(some 0), none, .mov (.const (.bool false))⟩])
 (.seq
 (.ops [⟨(some 12), none, .call 37 [] 25⟩,
   ⟨(some 1), none, .alloc 25 [(.int .i64 0), (.slice none 0 0), (.slice none 0 0)]⟩,
   ⟨none, none, .store 25 (tm 1) (tm 12) 3⟩])
 (.seq
 (.ops [⟨(some 14), none, .load 25 (tm 1) (some 3)⟩,
   ⟨(some 15), none, .call 22 [(tm 14), (kc 1)] 33⟩,
   ⟨(some 13), none, .mov (tm 15)⟩,
   ⟨(some 16), none, .extract (tm 13) 0⟩,
   ⟨(some 17), none, .extract (tm 13) 1⟩,
   ⟨(some 2), none, .mov (tm 16)⟩,
   ⟨(some 3), none, .mov (tm 17)⟩])
 (.seq
 (.ops [⟨(some 19), none, .load 25 (tm 1) (some 3)⟩,
   ⟨(some 20), none, .call 22 [(tm 19), (kc 2)] 33⟩,
   ⟨(some 18), none, .mov (tm 20)⟩,
   ⟨(some 21), none, .extract (tm 18) 0⟩,
   ⟨(some 22), none, .extract (tm 18) 1⟩,
   ⟨(some 4), none, .mov (tm 21)⟩,
   ⟨(some 5), none, .mov (tm 22)⟩])
 (.seq
 (.ops [⟨(some 24), none, .load 25 (tm 1) (some 3)⟩,
   ⟨(some 25), none, .call 24 [(tm 24), (kc 0)] 35⟩,
   ⟨(some 23), none, .mov (tm 25)⟩,
   ⟨(some 26), none, .extract (tm 23) 0⟩,
   ⟨(some 27), none, .extract (tm 23) 1⟩,
   ⟨(some 6), none, .mov (tm 26)⟩,
   ⟨(some 7), none, .mov (tm 27)⟩])
 (.seq
 (.ops [⟨(some 29), none, .load 25 (tm 1) (some 3)⟩,
   ⟨(some 30), none, .bslice 32 2 [(0, (kc 0)), (1, (kc 1))] 3 1 [(.int .i64 0)]⟩,
   ⟨(some 31), none, .call 33 [(tm 29), (tm 30)] 35⟩,
   ⟨(some 28), none, .mov (tm 31)⟩,
   ⟨(some 32), none, .extract (tm 28) 0⟩,
   ⟨(some 33), none, .extract (tm 28) 1⟩,
   ⟨(some 8), none, .mov (tm 32)⟩,
   ⟨(some 9), none, .mov (tm 33)⟩])
 (.seq
 (.ops [⟨(some 35), none, .load 25 (tm 1) (some 3)⟩,
   ⟨(some 36), none, .bslice 32 1 [(0, (kc 2))] 3 1 [(.int .i64 0)]⟩,
   ⟨(some 37), none, .call 35 [(tm 35), (kc 1), (tm 36)] 47⟩,
   ⟨(some 34), none, .mov (tm 37)⟩,
   ⟨(some 38), none, .extract (tm 34) 0⟩,
   ⟨(some 39), none, .extract (tm 34) 1⟩,
   ⟨(some 10), none, .mov (tm 38)⟩,
   ⟨(some 11), none, .mov (tm 39)⟩])
 (.seq
 (.ops [⟨(some 40), none, .mov (tm 3)⟩,
   ⟨(some 41), none, .bin .eql 26 (tm 40) (kc 0)⟩,
   ⟨(some 42), none, .mov (tm 41)⟩,
   ⟨(some 43), some (42, true), .mov (tm 5)⟩,
   ⟨(some 44), some (42, true), .bin .eql 26 (tm 43) (kc 0)⟩,
   ⟨(some 45), none, .pick (tm 42) (tm 44) (.const (.bool false))⟩,
   ⟨(some 46), none, .mov (tm 45)⟩,
   ⟨(some 47), some (46, true), .mov (tm 7)⟩,
   ⟨(some 48), some (46, true), .bin .eql 26 (tm 47) (kc 0)⟩,
   ⟨(some 49), none, .pick (tm 46) (tm 48) (.const (.bool false))⟩,
   ⟨(some 50), none, .mov (tm 49)⟩,
   ⟨(some 51), some (50, true), .mov (tm 9)⟩,
   ⟨(some 52), some (50, true), .bin .eql 26 (tm 51) (kc 0)⟩,
   ⟨(some 53), none, .pick (tm 50) (tm 52) (.const (.bool false))⟩,
   ⟨(some 54), none, .mov (tm 53)⟩,
   ⟨(some 55), some (54, true), .mov (tm 11)⟩,
   ⟨(some 56), some (54, true), .bin .eql 26 (tm 55) (kc 0)⟩,
   ⟨(some 57), none, .pick (tm 54) (tm 56) (.const (.bool false))⟩,
   ⟨(some 58), none, .mov (tm 57)⟩,
   ⟨(some 59), some (58, true), .mov (tm 2)⟩,
   ⟨(some 60), some (58, true), .bin .eql 3 (tm 59) (kc 2)⟩,
   ⟨(some 61), none, .pick (tm 58) (tm 60) (.const (.bool false))⟩,
   ⟨(some 62), none, .mov (tm 61)⟩,
   ⟨(some 63), some (62, true), .mov (tm 4)⟩,
   ⟨(some 64), some (62, true), .bin .eql 3 (tm 63) (kc 1)⟩,
   ⟨(some 65), none, .pick (tm 62) (tm 64) (.const (.bool false))⟩,
   ⟨(some 66), none, .mov (tm 65)⟩,
   ⟨(some 67), some (66, true), .mov (tm 6)⟩,
   ⟨(some 68), some (66, true), .bslice 32 2 [(0, (kc 2)), (1, (kc 0))] 3 1 [(.int .i64 0)]⟩,
   ⟨(some 69), some (66, true), .call 26 [(tm 67), (tm 68)] 4⟩,
   ⟨(some 70), none, .pick (tm 66) (tm 69) (.const (.bool false))⟩,
   ⟨(some 71), none, .mov (tm 70)⟩,
   ⟨(some 72), some (71, true), .mov (tm 8)⟩,
   ⟨(some 73), some (71, true), .bslice 32 2 [(0, (kc 2)), (1, (kc 1))] 3 1 [(.int .i64 0)]⟩,
   ⟨(some 74), some (71, true), .call 26 [(tm 72), (tm 73)] 4⟩,
   ⟨(some 75), none, .pick (tm 71) (tm 74) (.const (.bool false))⟩,
   ⟨(some 76), none, .mov (tm 75)⟩,
   ⟨(some 77), some (76, true), .mov (tm 10)⟩,
   ⟨(some 78), some (76, true), .bin .eql 9 (tm 77) (.const (.string ⟨#[107]⟩))⟩,
   ⟨(some 79), none, .pick (tm 76) (tm 78) (.const (.bool false))⟩,
   ⟨(some 80), none, .mov (tm 79)⟩,
   ⟨(some 81), some (80, true), .call 21 [] 4⟩,
   ⟨(some 82), none, .pick (tm 80) (tm 81) (.const (.bool false))⟩,
   ⟨(some 0), none, .mov (tm 82)⟩])
 .ret))))))))
theorem fn8 : FnOK Try.prog 8 83 [.tmp 0] L8 := ⟨Try.f8, Try.func8, by kernel_rfl, Try.ntmps8, by rw [Try.results8], by kernel_rfl⟩
def L17 : LCode :=
 (.seq
 (.ops [⟨(some 1), none, .box 25 (tm 0)⟩,
   ⟨(some 2), none, .mov (kc 0)⟩,
   ⟨(some 3), none, .mov (kc 0)⟩,
   ⟨(some 4), none, .mov (kc 0)⟩])
 (.seq
 (.block 0
  (.seq
  (.ops [⟨(some 6), none, .faddr 25 (tm 1) 0 0⟩,
    ⟨(some 7), none, .load 3 (tm 6) none⟩,
    ⟨(some 8), none, .bslice 32 1 [(0, (tm 7))] 3 1 [(.int .i64 0)]⟩,
    ⟨(some 9), none, .call 44 [(kc 1), (kc 4), (tm 8)] 4⟩,
    ⟨(some 5), none, .mov (tm 9)⟩])
  (.ite (tm 5)
   (.seq
   (.ops [⟨(some 2), none, .mov (kc 1)⟩,
     ⟨(some 3), none, .mov (kc 0)⟩,
     ⟨(some 4), none, .mov (kc 7)⟩])
   .ret)
   (.seq
   (.ops [⟨(some 11), none, .faddr 25 (tm 1) 1 1⟩,
     ⟨(some 12), none, .load 22 (tm 11) none⟩,
     ⟨(some 13), none, .len false 22 3 (tm 12)⟩,
     ⟨(some 14), none, .bslice 32 1 [(0, (tm 13))] 3 1 [(.int .i64 0)]⟩,
     ⟨(some 15), none, .call 44 [(kc 1), (kc 3), (tm 14)] 4⟩,
     ⟨(some 10), none, .mov (tm 15)⟩])
   (.ite (tm 10)
    (.seq
    (.ops [⟨(some 2), none, .mov (kc 2)⟩,
      ⟨(some 3), none, .mov (kc 0)⟩,
      ⟨(some 4), none, .mov (kc 3)⟩])
    .ret)
    .skip)))))
 (.seq
 (.ops [⟨(some 17), none, .faddr 25 (tm 1) 1 1⟩,
   ⟨(some 18), none, .load 22 (tm 17) none⟩,
   ⟨(some 19), none, .mkfn (.func 46) [] [(tm 1)]⟩,
   ⟨(some 20), none, .call 45 [(tm 18), (tm 19)] 33⟩,
   ⟨(some 16), none, .mov (tm 20)⟩,
   ⟨(some 21), none, .extract (tm 16) 0⟩,
   ⟨(some 22), none, .extract (tm 16) 1⟩,
   ⟨(some 3), none, .mov (tm 21)⟩,
   ⟨(some 4), none, .mov (tm 22)⟩])
 (.seq
 (.block 1
  (.seq
  (.ops [⟨(some 24), none, .mov (tm 4)⟩,
    ⟨(some 25), none, .bin .neq 26 (tm 24) (kc 0)⟩,
    ⟨(some 23), none, .mov (tm 25)⟩])
  (.ite (tm 23)
   (.seq
   (.ops [⟨(some 26), none, .mov (tm 3)⟩,
     ⟨(some 27), none, .mov (tm 4)⟩,
     ⟨(some 2), none, .mov (kc 2)⟩,
     ⟨(some 3), none, .mov (tm 26)⟩,
     ⟨(some 4), none, .mov (tm 27)⟩])
   .ret)
   (.seq
   (.ops [⟨(some 29), none, .faddr 25 (tm 1) 2 2⟩,
     ⟨(some 30), none, .load 23 (tm 29) none⟩,
     ⟨(some 31), none, .len false 23 3 (tm 30)⟩,
     ⟨(some 32), none, .bin .gtr 3 (tm 31) (kc 5)⟩,
     ⟨(some 28), none, .mov (tm 32)⟩])
   (.ite (tm 28)
    (.seq
    (.ops [⟨(some 2), none, .mov (kc 3)⟩,
      ⟨(some 3), none, .mov (kc 0)⟩,
      ⟨(some 4), none, .mov (kc 3)⟩])
    .ret)
    .skip)))))
 (.seq
 (.ops [⟨(some 34), none, .faddr 25 (tm 1) 2 2⟩,
   ⟨(some 35), none, .load 23 (tm 34) none⟩,
   ⟨(some 36), none, .mkfn (.func 53) [] [(tm 1)]⟩,
   ⟨(some 37), none, .call 52 [(tm 35), (tm 36)] 33⟩,
   ⟨(some 33), none, .mov (tm 37)⟩,
   ⟨(some 38), none, .extract (tm 33) 0⟩,
   ⟨(some 39), none, .extract (tm 33) 1⟩,
   ⟨(some 3), none, .mov (tm 38)⟩,
   ⟨(some 4), none, .mov (tm 39)⟩])
 (.seq
 (.seq
 (.ops [⟨(some 40), none, .mov (tm 4)⟩,
   ⟨(some 41), none, .bin .neq 26 (tm 40) (kc 0)⟩])
 (.ite (tm 41)
  (.seq
  (.ops [⟨(some 42), none, .mov (tm 3)⟩,
    ⟨(some 43), none, .mov (tm 4)⟩,
    ⟨(some 2), none, .mov (kc 3)⟩,
    ⟨(some 3), none, .mov (tm 42)⟩,
    ⟨(some 4), none, .mov (tm 43)⟩])
  .ret)
  .skip))
 (.seq
 (.ops [⟨(some 2), none, .mov (kc 0)⟩,
   ⟨(some 3), none, .mov (kc 0)⟩,
   ⟨(some 4), none, .mov (kc 0)⟩])
 .ret)))))))
theorem fn17 : FnOK Try.prog 17 44 [.tmp 2, .tmp 3, .tmp 4] L17 := ⟨Try.f17, Try.func17, by kernel_rfl, Try.ntmps17, by rw [Try.results17], by kernel_rfl⟩
def L18 : LCode :=
 (.seq
 (.ops [⟨(some 1), none, .box 25 (tm 0)⟩,
   ⟨(some 2), none, .mov (kc 0)⟩,
   ⟨(some 3), none, .mov (kc 0)⟩,
   ⟨(some 4), none, .mov (kc 0)⟩])
 (.seq
 (.seq
 (.ops [⟨(some 10), none, .faddr 25 (tm 1) 0 0⟩,
   ⟨(some 11), none, .load 3 (tm 10) none⟩,
   ⟨(some 12), none, .call 55 [(tm 11), (kc 1), (kc 4)] 4⟩,
   ⟨(some 13), none, .un .not (tm 12)⟩])
 (.ite (tm 13)
  (.seq
  (.ops [⟨(some 2), none, .mov (kc 1)⟩,
    ⟨(some 3), none, .mov (kc 0)⟩,
    ⟨(some 4), none, .mov (kc 7)⟩])
  .ret)
  .skip))
 (.seq
 (.seq
 (.ops [⟨(some 14), none, .faddr 25 (tm 1) 1 1⟩,
   ⟨(some 15), none, .load 22 (tm 14) none⟩,
   ⟨(some 16), none, .len false 22 3 (tm 15)⟩,
   ⟨(some 17), none, .call 55 [(tm 16), (kc 1), (kc 3)] 4⟩,
   ⟨(some 18), none, .un .not (tm 17)⟩])
 (.ite (tm 18)
  (.seq
  (.ops [⟨(some 2), none, .mov (kc 2)⟩,
    ⟨(some 3), none, .mov (kc 0)⟩,
    ⟨(some 4), none, .mov (kc 3)⟩])
  .ret)
  .skip))
 (.seq
 (.ops [⟨(some 5), none, .mov (.const (.slice none 0 0))⟩])
 (.seq
 (.seq
 (.ops [⟨(some 6), none, .mov (kc 0)⟩])
 (.block 0
  (.loop
   (.seq
   (.seq
   (.ops [⟨(some 19), none, .mov (tm 6)⟩,
     ⟨(some 20), none, .faddr 25 (tm 1) 1 1⟩,
     ⟨(some 21), none, .load 22 (tm 20) none⟩,
     ⟨(some 22), none, .len false 22 3 (tm 21)⟩,
     ⟨(some 23), none, .bin .lss 3 (tm 19) (tm 22)⟩])
   (.ite (tm 23)
    .skip
    (.exit 0)))
   (.seq
   (.block 1
    (.seq
    (.ops [⟨(some 26), none, .faddr 25 (tm 1) 1 1⟩,
      ⟨(some 27), none, .load 22 (tm 26) none⟩,
      ⟨(some 28), none, .mov (tm 6)⟩,
      ⟨(some 29), none, .iaddr 22 (tm 27) (tm 28) 2⟩,
      ⟨(some 30), none, .faddr 67 (tm 29) 0 0⟩,
      ⟨(some 31), none, .load 9 (tm 30) none⟩,
      ⟨(some 32), none, .mov (tm 5)⟩,
      ⟨(some 33), none, .call 56 [(tm 31), (tm 32)] 26⟩,
      ⟨(some 7), none, .mov (tm 33)⟩])
    (.seq
    (.ops [⟨(some 34), none, .mov (tm 5)⟩,
      ⟨(some 35), none, .faddr 25 (tm 1) 1 1⟩,
      ⟨(some 36), none, .load 22 (tm 35) none⟩,
      ⟨(some 37), none, .mov (tm 6)⟩,
      ⟨(some 38), none, .iaddr 22 (tm 36) (tm 37) 2⟩,
      ⟨(some 39), none, .faddr 67 (tm 38) 0 0⟩,
      ⟨(some 40), none, .load 9 (tm 39) none⟩,
      ⟨(some 41), none, .bslice 90 1 [(0, (tm 40))] 9 1 [(.string ⟨#[]⟩)]⟩,
      ⟨(some 42), none, .append 90 90 (tm 34) (tm 41) 9 1 16 [(.string ⟨#[]⟩)]⟩,
      ⟨(some 5), none, .mov (tm 42)⟩])
    (.seq
    (.seq
    (.ops [⟨(some 43), none, .mov (tm 7)⟩,
      ⟨(some 44), none, .bin .eql 26 (tm 43) (kc 0)⟩])
    (.ite (tm 44)
     (.dops [(⟨(some 45), none, .load 25 (tm 1) (some 3)⟩, []),
       (⟨(some 46), none, .faddr 25 (tm 1) 1 1⟩, []),
       (⟨(some 47), none, .load 22 (tm 46) none⟩, [1]),
       (⟨(some 48), none, .mov (tm 6)⟩, []),
       (⟨(some 49), none, .iaddr 22 (tm 47) (tm 48) 2⟩, [2, 3]),
       (⟨(some 50), none, .faddr 67 (tm 49) 1 1⟩, [4]),
       (⟨(some 51), none, .load 65 (tm 50) none⟩, [5]),
       (⟨(some 52), none, .call 57 [(tm 45), (tm 51)] 26⟩, [0, 6]),
       (⟨(some 7), none, .mov (tm 52)⟩, [7, 7, 0, 1, 2, 3, 4, 5, 6, 7])])
     .skip))
    (.seq
    (.ops [⟨(some 53), none, .mov (tm 7)⟩,
      ⟨(some 54), none, .bin .neq 26 (tm 53) (kc 0)⟩])
    (.ite (tm 54)
     (.seq
     (.ops [⟨(some 55), none, .mov (tm 6)⟩,
       ⟨(some 56), none, .mov (tm 7)⟩,
       ⟨(some 2), none, .mov (kc 2)⟩,
       ⟨(some 3), none, .mov (tm 55)⟩,
       ⟨(some 4), none, .mov (tm 56)⟩])
     .ret)
     .skip))))))
   (.ops [⟨(some 24), none, .mov (tm 6)⟩,
     ⟨(some 25), none, .bin .add 3 (tm 24) (kc 1)⟩,
     ⟨(some 6), none, .mov (tm 25)⟩]))))))
 (.seq
 (.seq
 (.ops [⟨(some 57), none, .faddr 25 (tm 1) 2 2⟩,
   ⟨(some 58), none, .load 23 (tm 57) none⟩,
   ⟨(some 59), none, .len false 23 3 (tm 58)⟩,
   ⟨(some 60), none, .bin .gtr 3 (tm 59) (kc 5)⟩])
 (.ite (tm 60)
  (.seq
  (.ops [⟨(some 2), none, .mov (kc 3)⟩,
    ⟨(some 3), none, .mov (kc 0)⟩,
    ⟨(some 4), none, .mov (kc 3)⟩])
  .ret)
  .skip))
 (.seq
 (.seq
 (.ops [⟨(some 8), none, .mov (kc 0)⟩])
 (.block 2
  (.loop
   (.seq
   (.seq
   (.ops [⟨(some 61), none, .mov (tm 8)⟩,
     ⟨(some 62), none, .faddr 25 (tm 1) 2 2⟩,
     ⟨(some 63), none, .load 23 (tm 62) none⟩,
     ⟨(some 64), none, .len false 23 3 (tm 63)⟩,
     ⟨(some 65), none, .bin .lss 3 (tm 61) (tm 64)⟩])
   (.ite (tm 65)
    .skip
    (.exit 2)))
   (.seq
   (.block 3
    (.seq
    (.dops [(⟨(some 68), none, .load 25 (tm 1) (some 3)⟩, []),
      (⟨(some 69), none, .faddr 25 (tm 1) 2 2⟩, []),
      (⟨(some 70), none, .load 23 (tm 69) none⟩, [1]),
      (⟨(some 71), none, .mov (tm 8)⟩, []),
      (⟨(some 72), none, .iaddr 23 (tm 70) (tm 71) 2⟩, [2, 3]),
      (⟨(some 73), none, .load 55 (tm 72) (some 2)⟩, [4]),
      (⟨(some 74), none, .call 58 [(tm 68), (tm 73)] 26⟩, [0, 5]),
      (⟨(some 9), none, .mov (tm 74)⟩, [6, 6, 0, 1, 2, 3, 4, 5, 6])])
    (.seq
    (.ops [⟨(some 75), none, .mov (tm 9)⟩,
      ⟨(some 76), none, .bin .neq 26 (tm 75) (kc 0)⟩])
    (.ite (tm 76)
     (.seq
     (.ops [⟨(some 77), none, .mov (tm 8)⟩,
       ⟨(some 78), none, .mov (tm 9)⟩,
       ⟨(some 2), none, .mov (kc 3)⟩,
       ⟨(some 3), none, .mov (tm 77)⟩,
       ⟨(some 4), none, .mov (tm 78)⟩])
     .ret)
     .skip))))
   (.ops [⟨(some 66), none, .mov (tm 8)⟩,
     ⟨(some 67), none, .bin .add 3 (tm 66) (kc 1)⟩,
     ⟨(some 8), none, .mov (tm 67)⟩]))))))
 (.seq
 (.ops [⟨(some 2), none, .mov (kc 0)⟩,
   ⟨(some 3), none, .mov (kc 0)⟩,
   ⟨(some 4), none, .mov (kc 0)⟩])
 .ret))))))))
theorem fn18 : FnOK Try.prog 18 79 [.tmp 2, .tmp 3, .tmp 4] L18 := ⟨Try.f18, Try.func18, by kernel_rfl, Try.ntmps18, by rw [Try.results18], by kernel_rfl⟩
def L19 : LCode :=
 (.seq
 (.ops [⟨(some 2), none, .mov (.const (.bool false))⟩])
 (.seq
 (.seq
 (.ops [⟨(some 6), none, .mov (tm 0)⟩,
   ⟨(some 7), none, .range 9 (tm 6) true⟩])
 (.block 0
  (.loop
   (.seq
   (.ops [⟨(some 8), none, .next (tm 7) true 0⟩,
     ⟨(some 9), none, .extract (tm 8) 0⟩])
   (.seq
   (.ite (tm 9)
    .skip
    (.exit 0))
   (.block 1
    (.seq
    (.ops [⟨(some 10), none, .extract (tm 8) 1⟩,
      ⟨(some 11), none, .extract (tm 8) 2⟩,
      ⟨(some 3), none, .mov (tm 10)⟩,
      ⟨(some 4), none, .mov (tm 11)⟩])
    (.seq
    (.ops [⟨(some 12), none, .mov (tm 4)⟩,
      ⟨(some 13), none, .bin .geq 21 (tm 12) (.const (.int .i32 97))⟩,
      ⟨(some 14), none, .mov (tm 13)⟩,
      ⟨(some 15), some (14, true), .mov (tm 4)⟩,
      ⟨(some 16), some (14, true), .bin .leq 21 (tm 15) (.const (.int .i32 122))⟩,
      ⟨(some 17), none, .pick (tm 14) (tm 16) (.const (.bool false))⟩,
      ⟨(some 5), none, .mov (tm 17)⟩])
    (.seq
    (.ops [⟨(some 18), none, .mov (tm 5)⟩,
      ⟨(some 19), none, .un .not (tm 18)⟩,
      ⟨(some 20), none, .mov (tm 19)⟩,
      ⟨(some 21), some (20, true), .mov (tm 3)⟩,
      ⟨(some 22), some (20, true), .bin .eql 3 (tm 21) (kc 0)⟩,
      ⟨(some 23), some (20, true), .mov (tm 22)⟩,
      ⟨(some 24), some (23, false), .mov (tm 4)⟩,
      ⟨(some 25), some (23, false), .bin .neq 21 (tm 24) (.const (.int .i32 46))⟩,
      ⟨(some 26), some (23, false), .mov (tm 25)⟩,
      ⟨(some 27), some (26, true), .mov (tm 4)⟩,
      ⟨(some 28), some (26, true), .bin .lss 21 (tm 27) (.const (.int .i32 48))⟩,
      ⟨(some 29), some (26, true), .mov (tm 28)⟩,
      ⟨(some 30), some (29, false), .mov (tm 4)⟩,
      ⟨(some 31), some (29, false), .bin .gtr 21 (tm 30) (.const (.int .i32 57))⟩,
      ⟨(some 32), some (26, true), .pick (tm 29) (.const (.bool true)) (tm 31)⟩,
      ⟨(some 33), some (23, false), .pick (tm 26) (tm 32) (.const (.bool false))⟩,
      ⟨(some 34), some (20, true), .pick (tm 23) (.const (.bool true)) (tm 33)⟩,
      ⟨(some 35), none, .pick (tm 20) (tm 34) (.const (.bool false))⟩])
    (.ite (tm 35)
     (.seq
     (.ops [⟨(some 2), none, .mov (.const (.bool false))⟩])
     .ret)
     .skip))))))))))
 (.seq
 (.ops [⟨(some 36), none, .mov (tm 0)⟩,
   ⟨(some 37), none, .len true 9 3 (tm 36)⟩,
   ⟨(some 38), none, .bslice 32 1 [(0, (tm 37))] 3 1 [(.int .i64 0)]⟩,
   ⟨(some 39), none, .call 44 [(kc 1), (kc 16), (tm 38)] 4⟩,
   ⟨(some 40), none, .un .not (tm 39)⟩,
   ⟨(some 2), none, .mov (tm 40)⟩])
 .ret)))
theorem fn19 : FnOK Try.prog 19 41 [.tmp 2] L19 := ⟨Try.f19, Try.func19, by kernel_rfl, Try.ntmps19, by rw [Try.results19], by kernel_rfl⟩
def L20 : LCode :=
 (.seq
 (.ops [⟨(some 2), none, .mov (.const (.bool false))⟩])
 (.seq
 (.ops [⟨(some 6), none, .mov (tm 0)⟩,
   ⟨(some 7), none, .len true 9 3 (tm 6)⟩,
   ⟨(some 8), none, .call 55 [(tm 7), (kc 1), (kc 16)] 4⟩,
   ⟨(some 3), none, .mov (tm 8)⟩])
 (.seq
 (.seq
 (.ops [⟨(some 4), none, .mov (kc 0)⟩])
 (.block 0
  (.loop
   (.seq
   (.seq
   (.ops [⟨(some 9), none, .mov (tm 4)⟩,
     ⟨(some 10), none, .mov (tm 0)⟩,
     ⟨(some 11), none, .len true 9 3 (tm 10)⟩,
     ⟨(some 12), none, .bin .lss 3 (tm 9) (tm 11)⟩])
   (.ite (tm 12)
    .skip
    (.exit 0)))
   (.seq
   (.block 1
    (.seq
    (.ops [⟨(some 15), none, .mov (tm 4)⟩,
      ⟨(some 16), none, .bin .gtr 3 (tm 15) (kc 0)⟩,
      ⟨(some 17), none, .mov (tm 16)⟩,
      ⟨(some 18), some (17, true), .mov (tm 0)⟩,
      ⟨(some 19), some (17, true), .mov (tm 4)⟩,
      ⟨(some 20), some (17, true), .indexS 9 (tm 18) (tm 19)⟩,
      ⟨(some 21), some (17, true), .bin .eql 5 (tm 20) (.const (.int .u8 46))⟩,
      ⟨(some 22), some (17, true), .mov (tm 21)⟩,
      ⟨(some 23), some (22, false), .mov (tm 0)⟩,
      ⟨(some 24), some (22, false), .mov (tm 4)⟩,
      ⟨(some 25), some (22, false), .indexS 9 (tm 23) (tm 24)⟩,
      ⟨(some 26), some (22, false), .toInt .i64 5 3 (tm 25)⟩,
      ⟨(some 27), some (22, false), .call 55 [(tm 26), (kc 48), (kc 57)] 4⟩,
      ⟨(some 28), some (17, true), .pick (tm 22) (.const (.bool true)) (tm 27)⟩,
      ⟨(some 29), none, .pick (tm 17) (tm 28) (.const (.bool false))⟩,
      ⟨(some 5), none, .mov (tm 29)⟩])
    (.ops [⟨(some 30), none, .mov (tm 3)⟩,
      ⟨(some 31), none, .mov (tm 30)⟩,
      ⟨(some 32), some (31, true), .mov (tm 0)⟩,
      ⟨(some 33), some (31, true), .mov (tm 4)⟩,
      ⟨(some 34), some (31, true), .indexS 9 (tm 32) (tm 33)⟩,
      ⟨(some 35), some (31, true), .toInt .i64 5 3 (tm 34)⟩,
      ⟨(some 36), some (31, true), .call 55 [(tm 35), (kc 97), (kc 122)] 4⟩,
      ⟨(some 37), some (31, true), .mov (tm 36)⟩,
      ⟨(some 38), some (37, false), .mov (tm 5)⟩,
      ⟨(some 39), some (31, true), .pick (tm 37) (.const (.bool true)) (tm 38)⟩,
      ⟨(some 40), none, .pick (tm 31) (tm 39) (.const (.bool false))⟩,
      ⟨(some 3), none, .mov (tm 40)⟩])))
   (.ops [⟨(some 13), none, .mov (tm 4)⟩,
     ⟨(some 14), none, .bin .add 3 (tm 13) (kc 1)⟩,
     ⟨(some 4), none, .mov (tm 14)⟩]))))))
 (.seq
 (.ops [⟨(some 41), none, .mov (tm 3)⟩,
   ⟨(some 2), none, .mov (tm 41)⟩])
 .ret))))
theorem fn20 : FnOK Try.prog 20 42 [.tmp 2] L20 := ⟨Try.f20, Try.func20, by kernel_rfl, Try.ntmps20, by rw [Try.results20], by kernel_rfl⟩
def L21 : LCode :=
 (.seq
 (.ops [⟨(some 0), none, .mov (.const (.bool false))⟩])
 (.seq
 (.ops [⟨(some 26), none, .call 37 [] 25⟩,
   ⟨(some 1), none, .alloc 25 [(.int .i64 0), (.slice none 0 0), (.slice none 0 0)]⟩,
   ⟨none, none, .store 25 (tm 1) (tm 26) 3⟩])
 (.seq
 (.ops [⟨(some 28), none, .load 25 (tm 1) (some 3)⟩,
   ⟨(some 29), none, .call 22 [(tm 28), (kc 0)] 33⟩,
   ⟨(some 27), none, .mov (tm 29)⟩,
   ⟨(some 30), none, .extract (tm 27) 0⟩,
   ⟨(some 31), none, .extract (tm 27) 1⟩,
   ⟨(some 2), none, .mov (tm 30)⟩,
   ⟨(some 3), none, .mov (tm 31)⟩])
 (.seq
 (.ops [⟨(some 33), none, .load 25 (tm 1) (some 3)⟩,
   ⟨(some 34), none, .call 24 [(tm 33), (kc 1)] 35⟩,
   ⟨(some 32), none, .mov (tm 34)⟩,
   ⟨(some 35), none, .extract (tm 32) 0⟩,
   ⟨(some 36), none, .extract (tm 32) 1⟩,
   ⟨(some 4), none, .mov (tm 35)⟩,
   ⟨(some 5), none, .mov (tm 36)⟩])
 (.seq
 (.ops [⟨(some 38), none, .load 25 (tm 1) (some 3)⟩,
   ⟨(some 39), none, .bslice 32 2 [(0, (kc 2)), (1, (kc 1))] 3 1 [(.int .i64 0)]⟩,
   ⟨(some 40), none, .call 27 [(tm 38), (kc 1), (tm 39)] 38⟩,
   ⟨(some 37), none, .mov (tm 40)⟩,
   ⟨(some 41), none, .extract (tm 37) 0⟩,
   ⟨(some 42), none, .extract (tm 37) 1⟩,
   ⟨(some 6), none, .mov (tm 41)⟩,
   ⟨(some 7), none, .mov (tm 42)⟩])
 (.seq
 (.ops [⟨(some 44), none, .load 25 (tm 1) (some 3)⟩,
   ⟨(some 45), none, .bslice 32 2 [(0, (kc 2)), (1, (kc 0))] 3 1 [(.int .i64 0)]⟩,
   ⟨(some 46), none, .call 27 [(tm 44), (kc 1), (tm 45)] 38⟩,
   ⟨(some 43), none, .mov (tm 46)⟩,
   ⟨(some 47), none, .extract (tm 43) 0⟩,
   ⟨(some 48), none, .extract (tm 43) 1⟩,
   ⟨(some 8), none, .mov (tm 47)⟩,
   ⟨(some 9), none, .mov (tm 48)⟩])
 (.seq
 (.ops [⟨(some 50), none, .load 25 (tm 1) (some 3)⟩,
   ⟨(some 51), none, .call 29 [(tm 50), (kc 2), (kc 3)] 33⟩,
   ⟨(some 49), none, .mov (tm 51)⟩,
   ⟨(some 52), none, .extract (tm 49) 0⟩,
   ⟨(some 53), none, .extract (tm 49) 1⟩,
   ⟨(some 10), none, .mov (tm 52)⟩,
   ⟨(some 11), none, .mov (tm 53)⟩])
 (.seq
 (.ops [⟨(some 55), none, .load 25 (tm 1) (some 3)⟩,
   ⟨(some 56), none, .call 29 [(tm 55), (kc 0), (kc 1)] 33⟩,
   ⟨(some 54), none, .mov (tm 56)⟩,
   ⟨(some 57), none, .extract (tm 54) 0⟩,
   ⟨(some 58), none, .extract (tm 54) 1⟩,
   ⟨(some 12), none, .mov (tm 57)⟩,
   ⟨(some 13), none, .mov (tm 58)⟩])
 (.seq
 (.ops [⟨(some 60), none, .load 25 (tm 1) (some 3)⟩,
   ⟨(some 61), none, .call 29 [(tm 60), (kc 1), (kc 2)] 33⟩,
   ⟨(some 59), none, .mov (tm 61)⟩,
   ⟨(some 62), none, .extract (tm 59) 0⟩,
   ⟨(some 63), none, .extract (tm 59) 1⟩,
   ⟨(some 14), none, .mov (tm 62)⟩,
   ⟨(some 15), none, .mov (tm 63)⟩])
 (.seq
 (.ops [⟨(some 65), none, .load 25 (tm 1) (some 3)⟩,
   ⟨(some 66), none, .bslice 32 3 [(0, (kc 0)), (1, (kc 2)), (2, (kc 3))] 3 1 [(.int .i64 0)]⟩,
   ⟨(some 67), none, .call 33 [(tm 65), (tm 66)] 35⟩,
   ⟨(some 64), none, .mov (tm 67)⟩,
   ⟨(some 68), none, .extract (tm 64) 0⟩,
   ⟨(some 69), none, .extract (tm 64) 1⟩,
   ⟨(some 16), none, .mov (tm 68)⟩,
   ⟨(some 17), none, .mov (tm 69)⟩])
 (.seq
 (.ops [⟨(some 71), none, .load 25 (tm 1) (some 3)⟩,
   ⟨(some 72), none, .bslice 32 2 [(0, (kc 1)), (1, (kc 2))] 3 1 [(.int .i64 0)]⟩,
   ⟨(some 73), none, .call 33 [(tm 71), (tm 72)] 35⟩,
   ⟨(some 70), none, .mov (tm 73)⟩,
   ⟨(some 74), none, .extract (tm 70) 0⟩,
   ⟨(some 75), none, .extract (tm 70) 1⟩,
   ⟨(some 18), none, .mov (tm 74)⟩,
   ⟨(some 19), none, .mov (tm 75)⟩])
 (.seq
 (.ops [⟨(some 77), none, .load 25 (tm 1) (some 3)⟩,
   ⟨(some 78), none, .call 31 [(tm 77)] 35⟩,
   ⟨(some 76), none, .mov (tm 78)⟩,
   ⟨(some 79), none, .extract (tm 76) 0⟩,
   ⟨(some 80), none, .extract (tm 76) 1⟩,
   ⟨(some 20), none, .mov (tm 79)⟩,
   ⟨(some 21), none, .mov (tm 80)⟩])
 (.seq
 (.ops [⟨(some 82), none, .load 25 (tm 1) (some 3)⟩,
   ⟨(some 83), none, .bslice 32 2 [(0, (kc 2)), (1, (kc 1))] 3 1 [(.int .i64 0)]⟩,
   ⟨(some 84), none, .call 35 [(tm 82), (kc 0), (tm 83)] 47⟩,
   ⟨(some 81), none, .mov (tm 84)⟩,
   ⟨(some 85), none, .extract (tm 81) 0⟩,
   ⟨(some 86), none, .extract (tm 81) 1⟩,
   ⟨(some 22), none, .mov (tm 85)⟩,
   ⟨(some 23), none, .mov (tm 86)⟩])
 (.seq
 (.ops [⟨(some 88), none, .load 25 (tm 1) (some 3)⟩,
   ⟨(some 89), none, .bslice 32 2 [(0, (kc 0)), (1, (kc 0))] 3 1 [(.int .i64 0)]⟩,
   ⟨(some 90), none, .call 35 [(tm 88), (kc 1), (tm 89)] 47⟩,
   ⟨(some 87), none, .mov (tm 90)⟩,
   ⟨(some 91), none, .extract (tm 87) 0⟩,
   ⟨(some 92), none, .extract (tm 87) 1⟩,
   ⟨(some 24), none, .mov (tm 91)⟩,
   ⟨(some 25), none, .mov (tm 92)⟩])
 (.seq
 (.ops [⟨(some 93), none, .mov (tm 3)⟩,
   ⟨(some 94), none, .bin .eql 26 (tm 93) (kc 0)⟩,
   ⟨(some 95), none, .mov (tm 94)⟩,
   ⟨(some 96), some (95, true), .mov (tm 5)⟩,
   ⟨(some 97), some (95, true), .bin .eql 26 (tm 96) (kc 0)⟩,
   ⟨(some 98), none, .pick (tm 95) (tm 97) (.const (.bool false))⟩,
   ⟨(some 99), none, .mov (tm 98)⟩,
   ⟨(some 100), some (99, true), .mov (tm 7)⟩,
   ⟨(some 101), some (99, true), .bin .eql 26 (tm 100) (kc 0)⟩,
   ⟨(some 102), none, .pick (tm 99) (tm 101) (.const (.bool false))⟩,
   ⟨(some 103), none, .mov (tm 102)⟩,
   ⟨(some 104), some (103, true), .mov (tm 9)⟩,
   ⟨(some 105), some (103, true), .bin .eql 26 (tm 104) (kc 0)⟩,
   ⟨(some 106), none, .pick (tm 103) (tm 105) (.const (.bool false))⟩,
   ⟨(some 107), none, .mov (tm 106)⟩,
   ⟨(some 108), some (107, true), .mov (tm 11)⟩,
   ⟨(some 109), some (107, true), .bin .eql 26 (tm 108) (kc 0)⟩,
   ⟨(some 110), none, .pick (tm 107) (tm 109) (.const (.bool false))⟩,
   ⟨(some 111), none, .mov (tm 110)⟩,
   ⟨(some 112), some (111, true), .mov (tm 13)⟩,
   ⟨(some 113), some (111, true), .bin .eql 26 (tm 112) (kc 0)⟩,
   ⟨(some 114), none, .pick (tm 111) (tm 113) (.const (.bool false))⟩,
   ⟨(some 115), none, .mov (tm 114)⟩,
   ⟨(some 116), some (115, true), .mov (tm 15)⟩,
   ⟨(some 117), some (115, true), .bin .eql 26 (tm 116) (kc 0)⟩,
   ⟨(some 118), none, .pick (tm 115) (tm 117) (.const (.bool false))⟩,
   ⟨(some 119), none, .mov (tm 118)⟩,
   ⟨(some 120), some (119, true), .mov (tm 17)⟩,
   ⟨(some 121), some (119, true), .bin .eql 26 (tm 120) (kc 0)⟩,
   ⟨(some 122), none, .pick (tm 119) (tm 121) (.const (.bool false))⟩,
   ⟨(some 123), none, .mov (tm 122)⟩,
   ⟨(some 124), some (123, true), .mov (tm 19)⟩,
   ⟨(some 125), some (123, true), .bin .eql 26 (tm 124) (kc 9)⟩,
   ⟨(some 126), none, .pick (tm 123) (tm 125) (.const (.bool false))⟩,
   ⟨(some 127), none, .mov (tm 126)⟩,
   ⟨(some 128), some (127, true), .mov (tm 21)⟩,
   ⟨(some 129), some (127, true), .bin .eql 26 (tm 128) (kc 0)⟩,
   ⟨(some 130), none, .pick (tm 127) (tm 129) (.const (.bool false))⟩,
   ⟨(some 131), none, .mov (tm 130)⟩,
   ⟨(some 132), some (131, true), .mov (tm 23)⟩,
   ⟨(some 133), some (131, true), .bin .eql 26 (tm 132) (kc 0)⟩,
   ⟨(some 134), none, .pick (tm 131) (tm 133) (.const (.bool false))⟩,
   ⟨(some 135), none, .mov (tm 134)⟩,
   ⟨(some 136), some (135, true), .mov (tm 25)⟩,
   ⟨(some 137), some (135, true), .bin .eql 26 (tm 136) (kc 0)⟩,
   ⟨(some 138), none, .pick (tm 135) (tm 137) (.const (.bool false))⟩,
   ⟨(some 139), none, .mov (tm 138)⟩,
   ⟨(some 140), some (139, true), .mov (tm 2)⟩,
   ⟨(some 141), some (139, true), .bin .eql 3 (tm 140) (kc 2)⟩,
   ⟨(some 142), none, .pick (tm 139) (tm 141) (.const (.bool false))⟩,
   ⟨(some 143), none, .mov (tm 142)⟩,
   ⟨(some 144), some (143, true), .mov (tm 4)⟩,
   ⟨(some 145), some (143, true), .bslice 32 1 [(0, (kc 2))] 3 1 [(.int .i64 0)]⟩,
   ⟨(some 146), some (143, true), .call 26 [(tm 144), (tm 145)] 4⟩,
   ⟨(some 147), none, .pick (tm 143) (tm 146) (.const (.bool false))⟩,
   ⟨(some 148), none, .mov (tm 147)⟩,
   ⟨(some 149), some (148, true), .mov (tm 6)⟩,
   ⟨(some 150), none, .pick (tm 148) (tm 149) (.const (.bool false))⟩,
   ⟨(some 151), none, .mov (tm 150)⟩,
   ⟨(some 152), some (151, true), .mov (tm 8)⟩,
   ⟨(some 153), some (151, true), .un .not (tm 152)⟩,
   ⟨(some 154), none, .pick (tm 151) (tm 153) (.const (.bool false))⟩,
   ⟨(some 155), none, .mov (tm 154)⟩,
   ⟨(some 156), some (155, true), .mov (tm 10)⟩,
   ⟨(some 157), some (155, true), .bin .eql 3 (tm 156) (kc 1)⟩,
   ⟨(some 158), none, .pick (tm 155) (tm 157) (.const (.bool false))⟩,
   ⟨(some 159), none, .mov (tm 158)⟩,
   ⟨(some 160), some (159, true), .mov (tm 12)⟩,
   ⟨(some 161), some (159, true), .bin .eql 3 (tm 160) (kc 0)⟩,
   ⟨(some 162), none, .pick (tm 159) (tm 161) (.const (.bool false))⟩,
   ⟨(some 163), none, .mov (tm 162)⟩,
   ⟨(some 164), some (163, true), .mov (tm 14)⟩,
   ⟨(some 165), some (163, true), .bin .eql 3 (tm 164) (kc 2)⟩,
   ⟨(some 166), none, .pick (tm 163) (tm 165) (.const (.bool false))⟩,
   ⟨(some 167), none, .mov (tm 166)⟩,
   ⟨(some 168), some (167, true), .mov (tm 16)⟩,
   ⟨(some 169), some (167, true), .bslice 32 2 [(0, (kc 2)), (1, (kc 0))] 3 1 [(.int .i64 0)]⟩,
   ⟨(some 170), some (167, true), .call 26 [(tm 168), (tm 169)] 4⟩,
   ⟨(some 171), none, .pick (tm 167) (tm 170) (.const (.bool false))⟩,
   ⟨(some 172), none, .mov (tm 171)⟩,
   ⟨(some 173), some (172, true), .mov (tm 20)⟩,
   ⟨(some 174), some (172, true), .bslice 32 1 [(0, (kc 1))] 3 1 [(.int .i64 0)]⟩,
   ⟨(some 175), some (172, true), .call 26 [(tm 173), (tm 174)] 4⟩,
   ⟨(some 176), none, .pick (tm 172) (tm 175) (.const (.bool false))⟩,
   ⟨(some 177), none, .mov (tm 176)⟩,
   ⟨(some 178), some (177, true), .mov (tm 22)⟩,
   ⟨(some 179), some (177, true), .bin .eql 9 (tm 178) (.const (.string ⟨#[107, 101]⟩))⟩,
   ⟨(some 180), none, .pick (tm 177) (tm 179) (.const (.bool false))⟩,
   ⟨(some 181), none, .mov (tm 180)⟩,
   ⟨(some 182), some (181, true), .mov (tm 24)⟩,
   ⟨(some 183), some (181, true), .bin .eql 9 (tm 182) (.const (.string ⟨#[110, 110]⟩))⟩,
   ⟨(some 184), none, .pick (tm 181) (tm 183) (.const (.bool false))⟩,
   ⟨(some 185), none, .mov (tm 184)⟩,
   ⟨(some 186), some (185, true), .call 19 [(.const (.string ⟨#[97, 46, 57]⟩))] 4⟩,
   ⟨(some 187), none, .pick (tm 185) (tm 186) (.const (.bool false))⟩,
   ⟨(some 188), none, .mov (tm 187)⟩,
   ⟨(some 189), some (188, true), .call 19 [(.const (.string ⟨#[46, 97]⟩))] 4⟩,
   ⟨(some 190), some (188, true), .un .not (tm 189)⟩,
   ⟨(some 191), none, .pick (tm 188) (tm 190) (.const (.bool false))⟩,
   ⟨(some 0), none, .mov (tm 191)⟩])
 .ret)))))))))))))))
theorem fn21 : FnOK Try.prog 21 192 [.tmp 0] L21 := ⟨Try.f21, Try.func21, by kernel_rfl, Try.ntmps21, by rw [Try.results21], by kernel_rfl⟩
def L22 : LCode :=
 (.seq
 (.ops [⟨(some 2), none, .box 25 (tm 0)⟩,
   ⟨(some 4), none, .mov (kc 0)⟩,
   ⟨(some 5), none, .mov (kc 0)⟩])
 (.seq
 (.ops [⟨(some 11), none, .load 25 (tm 2) (some 3)⟩,
   ⟨(some 12), none, .faddr 25 (tm 2) 2 2⟩,
   ⟨(some 13), none, .load 23 (tm 12) none⟩,
   ⟨(some 14), none, .len false 23 3 (tm 13)⟩,
   ⟨(some 15), none, .mov (tm 1)⟩,
   ⟨(some 16), none, .bslice 32 1 [(0, (tm 15))] 3 1 [(.int .i64 0)]⟩,
   ⟨(some 17), none, .call 59 [(tm 11), (tm 14), (tm 16)] 95⟩,
   ⟨(some 10), none, .mov (tm 17)⟩,
   ⟨(some 18), none, .extract (tm 10) 0⟩,
   ⟨(some 19), none, .extract (tm 10) 1⟩,
   ⟨(some 6), none, .mov (tm 18)⟩,
   ⟨(some 7), none, .mov (tm 19)⟩])
 (.seq
 (.seq
 (.ops [⟨(some 20), none, .mov (tm 7)⟩,
   ⟨(some 21), none, .bin .neq 26 (tm 20) (kc 0)⟩])
 (.ite (tm 21)
  (.seq
  (.ops [⟨(some 22), none, .mov (tm 7)⟩,
    ⟨(some 4), none, .mov (kc 0)⟩,
    ⟨(some 5), none, .mov (tm 22)⟩])
  .ret)
  .skip))
 (.seq
 (.ops [⟨(some 24), none, .mov (tm 6)⟩,
   ⟨(some 25), none, .mov (tm 1)⟩,
   ⟨(some 26), none, .bin .shl 3 (kc 1) (tm 25)⟩,
   ⟨(some 27), none, .call 60 [(tm 24), (tm 26)] 100⟩,
   ⟨(some 23), none, .mov (tm 27)⟩,
   ⟨(some 28), none, .extract (tm 23) 0⟩,
   ⟨(some 29), none, .extract (tm 23) 1⟩,
   ⟨(some 8), none, .alloc 99 [(.int .i64 0), (.int .i64 0), (.int .i64 0), (.int .i64 0), (.int .i64 0), (.int .i64 0)]⟩,
   ⟨none, none, .store 99 (tm 8) (tm 28) 6⟩,
   ⟨(some 9), none, .mov (tm 29)⟩])
 (.seq
 (.ops [⟨(some 30), none, .mov (tm 9)⟩,
   ⟨(some 4), none, .mov (tm 30)⟩,
   ⟨(some 5), none, .mov (kc 0)⟩])
 .ret)))))
theorem fn22 : FnOK Try.prog 22 31 [.tmp 4, .tmp 5] L22 := ⟨Try.f22, Try.func22, by kernel_rfl, Try.ntmps22, by rw [Try.results22], by kernel_rfl⟩
def L23 : LCode :=
 (.seq
 (.ops [⟨(some 2), none, .box 25 (tm 0)⟩,
   ⟨(some 4), none, .mov (kc 0)⟩,
   ⟨(some 5), none, .mov (kc 0)⟩])
 (.seq
 (.ops [⟨(some 7), none, .load 25 (tm 2) (some 3)⟩,
   ⟨(some 8), none, .mov (tm 1)⟩,
   ⟨(some 9), none, .call 61 [(tm 7), (tm 8)] 26⟩,
   ⟨(some 6), none, .mov (tm 9)⟩])
 (.seq
 (.seq
 (.ops [⟨(some 10), none, .mov (tm 6)⟩,
   ⟨(some 11), none, .bin .neq 26 (tm 10) (kc 0)⟩])
 (.ite (tm 11)
  (.seq
  (.ops [⟨(some 12), none, .mov (tm 6)⟩,
    ⟨(some 4), none, .mov (kc 0)⟩,
    ⟨(some 5), none, .mov (tm 12)⟩])
  .ret)
  .skip))
 (.seq
 (.dops [(⟨(some 13), none, .load 25 (tm 2) (some 3)⟩, []),
   (⟨(some 14), none, .faddr 25 (tm 2) 2 2⟩, []),
   (⟨(some 15), none, .load 23 (tm 14) none⟩, [1]),
   (⟨(some 16), none, .mov (tm 1)⟩, []),
   (⟨(some 17), none, .iaddr 23 (tm 15) (tm 16) 2⟩, [2, 3]),
   (⟨(some 18), none, .load 55 (tm 17) (some 2)⟩, [4]),
   (⟨(some 19), none, .call 63 [(tm 13), (tm 18)] 104⟩, [0, 5]),
   (⟨(some 20), none, .call 62 [(tm 19)] 3⟩, [6, 6]),
   (⟨(some 4), none, .mov (tm 20)⟩, [7, 7, 0, 1, 2, 3, 4, 5, 6, 7]),
   (⟨(some 5), none, .mov (kc 0)⟩, [8, 0, 1, 2, 3, 4, 5, 6, 7, 8])])
 .ret))))
theorem fn23 : FnOK Try.prog 23 21 [.tmp 4, .tmp 5] L23 := ⟨Try.f23, Try.func23, by kernel_rfl, Try.ntmps23, by rw [Try.results23], by kernel_rfl⟩
def L24 : LCode :=
 (.seq
 (.ops [⟨(some 2), none, .box 25 (tm 0)⟩,
   ⟨(some 4), none, .mov (.const (.slice none 0 0))⟩,
   ⟨(some 5), none, .mov (kc 0)⟩])
 (.seq
 (.ops [⟨(some 11), none, .load 25 (tm 2) (some 3)⟩,
   ⟨(some 12), none, .faddr 25 (tm 2) 2 2⟩,
   ⟨(some 13), none, .load 23 (tm 12) none⟩,
   ⟨(some 14), none, .len false 23 3 (tm 13)⟩,
   ⟨(some 15), none, .mov (tm 1)⟩,
   ⟨(some 16), none, .bslice 32 1 [(0, (tm 15))] 3 1 [(.int .i64 0)]⟩,
   ⟨(some 17), none, .call 59 [(tm 11), (tm 14), (tm 16)] 95⟩,
   ⟨(some 10), none, .mov (tm 17)⟩,
   ⟨(some 18), none, .extract (tm 10) 0⟩,
   ⟨(some 19), none, .extract (tm 10) 1⟩,
   ⟨(some 6), none, .mov (tm 18)⟩,
   ⟨(some 7), none, .mov (tm 19)⟩])
 (.seq
 (.seq
 (.ops [⟨(some 20), none, .mov (tm 7)⟩,
   ⟨(some 21), none, .bin .neq 26 (tm 20) (kc 0)⟩])
 (.ite (tm 21)
  (.seq
  (.ops [⟨(some 22), none, .mov (tm 7)⟩,
    ⟨(some 4), none, .mov (.const (.slice none 0 0))⟩,
    ⟨(some 5), none, .mov (tm 22)⟩])
  .ret)
  .skip))
 (.seq
 (.ops [⟨(some 24), none, .mov (tm 6)⟩,
   ⟨(some 25), none, .mov (tm 1)⟩,
   ⟨(some 26), none, .bin .shl 3 (kc 1) (tm 25)⟩,
   ⟨(some 27), none, .call 60 [(tm 24), (tm 26)] 100⟩,
   ⟨(some 23), none, .mov (tm 27)⟩,
   ⟨(some 28), none, .extract (tm 23) 0⟩,
   ⟨(some 29), none, .extract (tm 23) 1⟩,
   ⟨(some 8), none, .alloc 99 [(.int .i64 0), (.int .i64 0), (.int .i64 0), (.int .i64 0), (.int .i64 0), (.int .i64 0)]⟩,
   ⟨none, none, .store 99 (tm 8) (tm 28) 6⟩,
   ⟨(some 9), none, .mov (tm 29)⟩])
 (.seq
 (.ops [⟨(some 30), none, .load 99 (tm 8) (some 6)⟩,
   ⟨(some 31), none, .call 64 [(tm 30)] 32⟩,
   ⟨(some 4), none, .mov (tm 31)⟩,
   ⟨(some 5), none, .mov (kc 0)⟩])
 .ret)))))
theorem fn24 : FnOK Try.prog 24 32 [.tmp 4, .tmp 5] L24 := ⟨Try.f24, Try.func24, by kernel_rfl, Try.ntmps24, by rw [Try.results24], by kernel_rfl⟩
def L25 : LCode :=
 (.seq
 (.ops [⟨(some 2), none, .box 25 (tm 0)⟩,
   ⟨(some 4), none, .mov (.const (.slice none 0 0))⟩,
   ⟨(some 5), none, .mov (kc 0)⟩])
 (.seq
 (.ops [⟨(some 7), none, .load 25 (tm 2) (some 3)⟩,
   ⟨(some 8), none, .mov (tm 1)⟩,
   ⟨(some 9), none, .call 61 [(tm 7), (tm 8)] 26⟩,
   ⟨(some 6), none, .mov (tm 9)⟩])
 (.seq
 (.seq
 (.ops [⟨(some 10), none, .mov (tm 6)⟩,
   ⟨(some 11), none, .bin .neq 26 (tm 10) (kc 0)⟩])
 (.ite (tm 11)
  (.seq
  (.ops [⟨(some 12), none, .mov (tm 6)⟩,
    ⟨(some 4), none, .mov (.const (.slice none 0 0))⟩,
    ⟨(some 5), none, .mov (tm 12)⟩])
  .ret)
  .skip))
 (.seq
 (.dops [(⟨(some 13), none, .load 25 (tm 2) (some 3)⟩, []),
   (⟨(some 14), none, .faddr 25 (tm 2) 2 2⟩, []),
   (⟨(some 15), none, .load 23 (tm 14) none⟩, [1]),
   (⟨(some 16), none, .mov (tm 1)⟩, []),
   (⟨(some 17), none, .iaddr 23 (tm 15) (tm 16) 2⟩, [2, 3]),
   (⟨(some 18), none, .load 55 (tm 17) (some 2)⟩, [4]),
   (⟨(some 19), none, .call 63 [(tm 13), (tm 18)] 104⟩, [0, 5]),
   (⟨(some 20), none, .call 66 [(tm 19)] 3⟩, [6, 6]),
   (⟨(some 21), none, .call 65 [(tm 20)] 32⟩, [7, 7]),
   (⟨(some 4), none, .mov (tm 21)⟩, [8, 8, 0, 1, 2, 3, 4, 5, 6, 7, 8]),
   (⟨(some 5), none, .mov (kc 0)⟩, [9, 0, 1, 2, 3, 4, 5, 6, 7, 8, 9])])
 .ret))))
theorem fn25 : FnOK Try.prog 25 22 [.tmp 4, .tmp 5] L25 := ⟨Try.f25, Try.func25, by kernel_rfl, Try.ntmps25, by rw [Try.results25], by kernel_rfl⟩
def L26 : LCode :=
 (.seq
 (.ops [⟨(some 4), none, .mov (.const (.bool false))⟩])
 (.seq
 (.ops [⟨(some 5), none, .mov (tm 0)⟩,
   ⟨(some 6), none, .len false 32 3 (tm 5)⟩,
   ⟨(some 7), none, .mov (tm 1)⟩,
   ⟨(some 8), none, .len false 32 3 (tm 7)⟩,
   ⟨(some 9), none, .bin .eql 3 (tm 6) (tm 8)⟩,
   ⟨(some 10), none, .mov (tm 9)⟩,
   ⟨(some 11), some (10, true), .mov (tm 0)⟩,
   ⟨(some 12), some (10, true), .mov (tm 1)⟩,
   ⟨(some 13), some (10, true), .call 67 [(tm 11), (tm 12)] 4⟩,
   ⟨(some 14), some (10, true), .un .not (tm 13)⟩,
   ⟨(some 15), none, .pick (tm 10) (tm 14) (.const (.bool false))⟩,
   ⟨(some 16), none, .mov (tm 15)⟩,
   ⟨(some 17), some (16, true), .mov (tm 1)⟩,
   ⟨(some 18), some (16, true), .mov (tm 0)⟩,
   ⟨(some 19), some (16, true), .call 67 [(tm 17), (tm 18)] 4⟩,
   ⟨(some 20), some (16, true), .un .not (tm 19)⟩,
   ⟨(some 21), none, .pick (tm 16) (tm 20) (.const (.bool false))⟩,
   ⟨(some 4), none, .mov (tm 21)⟩])
 .ret))
theorem fn26 : FnOK Try.prog 26 22 [.tmp 4] L26 := ⟨Try.f26, Try.func26, by kernel_rfl, Try.ntmps26, by rw [Try.results26], by kernel_rfl⟩
def L27 : LCode :=
 (.seq
 (.ops [⟨(some 3), none, .box 25 (tm 0)⟩,
   ⟨(some 6), none, .mov (.const (.bool false))⟩,
   ⟨(some 7), none, .mov (kc 0)⟩])
 (.seq
 (.ops [⟨(some 12), none, .load 25 (tm 3) (some 3)⟩,
   ⟨(some 13), none, .faddr 25 (tm 3) 2 2⟩,
   ⟨(some 14), none, .load 23 (tm 13) none⟩,
   ⟨(some 15), none, .len false 23 3 (tm 14)⟩,
   ⟨(some 16), none, .mov (tm 1)⟩,
   ⟨(some 17), none, .bslice 32 1 [(0, (tm 16))] 3 1 [(.int .i64 0)]⟩,
   ⟨(some 18), none, .call 59 [(tm 12), (tm 15), (tm 17)] 95⟩,
   ⟨(some 11), none, .mov (tm 18)⟩,
   ⟨(some 19), none, .extract (tm 11) 0⟩,
   ⟨(some 20), none, .extract (tm 11) 1⟩,
   ⟨(some 8), none, .mov (tm 19)⟩,
   ⟨(some 9), none, .mov (tm 20)⟩])
 (.seq
 (.seq
 (.ops [⟨(some 21), none, .mov (tm 9)⟩,
   ⟨(some 22), none, .bin .neq 26 (tm 21) (kc 0)⟩])
 (.ite (tm 22)
  (.seq
  (.ops [⟨(some 23), none, .mov (tm 9)⟩,
    ⟨(some 6), none, .mov (.const (.bool false))⟩,
    ⟨(some 7), none, .mov (tm 23)⟩])
  .ret)
  .skip))
 (.seq
 (.ops [⟨(some 25), none, .mov (tm 8)⟩,
   ⟨(some 26), none, .mov (tm 2)⟩,
   ⟨(some 27), none, .call 68 [(tm 25), (tm 26)] 108⟩,
   ⟨(some 24), none, .mov (tm 27)⟩,
   ⟨(some 28), none, .extract (tm 24) 0⟩,
   ⟨(some 29), none, .extract (tm 24) 1⟩,
   ⟨(some 10), none, .alloc 99 [(.int .i64 0), (.int .i64 0), (.int .i64 0), (.int .i64 0), (.int .i64 0), (.int .i64 0)]⟩,
   ⟨none, none, .store 99 (tm 10) (tm 28) 6⟩,
   ⟨(some 9), none, .mov (tm 29)⟩])
 (.seq
 (.seq
 (.ops [⟨(some 30), none, .mov (tm 9)⟩,
   ⟨(some 31), none, .bin .neq 26 (tm 30) (kc 0)⟩])
 (.ite (tm 31)
  (.seq
  (.ops [⟨(some 32), none, .mov (tm 9)⟩,
    ⟨(some 6), none, .mov (.const (.bool false))⟩,
    ⟨(some 7), none, .mov (tm 32)⟩])
  .ret)
  .skip))
 (.seq
 (.dops [(⟨(some 33), none, .mov (tm 8)⟩, []),
   (⟨(some 34), none, .nilck (tm 33)⟩, [0]),
   (⟨(some 35), none, .faddr 112 (tm 34) 1 3⟩, [1]),
   (⟨(some 36), none, .load 110 (tm 35) none⟩, [2]),
   (⟨(some 37), none, .load 99 (tm 10) (some 6)⟩, []),
   (⟨(some 38), none, .lookup 110 (tm 36) (tm 37) false 99 3 [(.int .i64 0)]⟩, [3, 4]),
   (⟨(some 39), none, .mov (tm 1)⟩, []),
   (⟨(some 40), none, .bin .shr 3 (tm 38) (tm 39)⟩, [5, 6]),
   (⟨(some 41), none, .bin .and 3 (tm 40) (kc 1)⟩, [7]),
   (⟨(some 42), none, .bin .eql 3 (tm 41) (kc 1)⟩, [8]),
   (⟨(some 6), none, .mov (tm 42)⟩, [9, 0, 1, 2, 3, 4, 5, 6, 7, 8, 9]),
   (⟨(some 7), none, .mov (kc 0)⟩, [10, 0, 1, 2, 3, 4, 5, 6, 7, 8, 9, 10])])
 .ret))))))
theorem fn27 : FnOK Try.prog 27 43 [.tmp 6, .tmp 7] L27 := ⟨Try.f27, Try.func27, by kernel_rfl, Try.ntmps27, by rw [Try.results27], by kernel_rfl⟩
def L28 : LCode :=
 (.seq
 (.ops [⟨(some 3), none, .box 25 (tm 0)⟩,
   ⟨(some 6), none, .mov (.const (.bool false))⟩,
   ⟨(some 7), none, .mov (kc 0)⟩])
 (.seq
 (.dops [(⟨(some 9), none, .load 25 (tm 3) (some 3)⟩, []),
   (⟨(some 10), none, .mov (tm 2)⟩, []),
   (⟨(some 11), none, .load 25 (tm 3) (some 3)⟩, []),
   (⟨(some 12), none, .mov (tm 1)⟩, []),
   (⟨(some 13), none, .call 61 [(tm 11), (tm 12)] 26⟩, [2, 3]),
   (⟨(some 14), none, .call 69 [(tm 9), (tm 10), (tm 13)] 26⟩, [0, 1, 4, 4]),
   (⟨(some 8), none, .mov (tm 14)⟩, [5, 5, 0, 1, 2, 3, 4, 5])])
 (.seq
 (.seq
 (.ops [⟨(some 15), none, .mov (tm 8)⟩,
   ⟨(some 16), none, .bin .neq 26 (tm 15) (kc 0)⟩])
 (.ite (tm 16)
  (.seq
  (.ops [⟨(some 17), none, .mov (tm 8)⟩,
    ⟨(some 6), none, .mov (.const (.bool false))⟩,
    ⟨(some 7), none, .mov (tm 17)⟩])
  .ret)
  .skip))
 (.seq
 (.dops [(⟨(some 18), none, .load 25 (tm 3) (some 3)⟩, []),
   (⟨(some 19), none, .faddr 25 (tm 3) 2 2⟩, []),
   (⟨(some 20), none, .load 23 (tm 19) none⟩, [1]),
   (⟨(some 21), none, .mov (tm 1)⟩, []),
   (⟨(some 22), none, .iaddr 23 (tm 20) (tm 21) 2⟩, [2, 3]),
   (⟨(some 23), none, .load 55 (tm 22) (some 2)⟩, [4]),
   (⟨(some 24), none, .call 63 [(tm 18), (tm 23)] 104⟩, [0, 5]),
   (⟨(some 25), none, .mov (tm 2)⟩, []),
   (⟨(some 26), none, .call 70 [(tm 25)] 3⟩, [7, 6]),
   (⟨(some 27), none, .iaddr 104 (tm 24) (tm 26) 1⟩, [6, 8]),
   (⟨(some 28), none, .load 4 (tm 27) none⟩, [9]),
   (⟨(some 6), none, .mov (tm 28)⟩, [10, 8, 0, 1, 2, 3, 4, 5, 6, 7, 8, 9, 10]),
   (⟨(some 7), none, .mov (kc 0)⟩, [11, 0, 1, 2, 3, 4, 5, 6, 7, 8, 9, 10, 11])])
 .ret))))
theorem fn28 : FnOK Try.prog 28 29 [.tmp 6, .tmp 7] L28 := ⟨Try.f28, Try.func28, by kernel_rfl, Try.ntmps28, by rw [Try.results28], by kernel_rfl⟩
def L29 : LCode :=
 (.seq
 (.ops [⟨(some 3), none, .box 25 (tm 0)⟩,
   ⟨(some 6), none, .mov (kc 0)⟩,
   ⟨(some 7), none, .mov (kc 0)⟩])
 (.seq
 (.ops [⟨(some 17), none, .load 25 (tm 3) (some 3)⟩,
   ⟨(some 18), none, .faddr 25 (tm 3) 2 2⟩,
   ⟨(some 19), none, .load 23 (tm 18) none⟩,
   ⟨(some 20), none, .len false 23 3 (tm 19)⟩,
   ⟨(some 21), none, .mov (tm 1)⟩,
   ⟨(some 22), none, .mov (tm 2)⟩,
   ⟨(some 23), none, .bslice 32 2 [(0, (tm 21)), (1, (tm 22))] 3 1 [(.int .i64 0)]⟩,
   ⟨(some 24), none, .call 59 [(tm 17), (tm 20), (tm 23)] 95⟩,
   ⟨(some 16), none, .mov (tm 24)⟩,
   ⟨(some 25), none, .extract (tm 16) 0⟩,
   ⟨(some 26), none, .extract (tm 16) 1⟩,
   ⟨(some 8), none, .mov (tm 25)⟩,
   ⟨(some 9), none, .mov (tm 26)⟩])
 (.seq
 (.block 0
  (.seq
  (.ops [⟨(some 28), none, .mov (tm 9)⟩,
    ⟨(some 29), none, .bin .neq 26 (tm 28) (kc 0)⟩,
    ⟨(some 27), none, .mov (tm 29)⟩])
  (.ite (tm 27)
   (.seq
   (.ops [⟨(some 30), none, .mov (tm 9)⟩,
     ⟨(some 6), none, .mov (kc 0)⟩,
     ⟨(some 7), none, .mov (tm 30)⟩])
   .ret)
   (.seq
   (.ops [⟨(some 32), none, .mov (tm 1)⟩,
     ⟨(some 33), none, .mov (tm 2)⟩,
     ⟨(some 34), none, .bin .eql 3 (tm 32) (tm 33)⟩,
     ⟨(some 31), none, .mov (tm 34)⟩])
   (.ite (tm 31)
    (.seq
    (.ops [⟨(some 6), none, .mov (kc 0)⟩,
      ⟨(some 7), none, .mov (kc 2)⟩])
    .ret)
    .skip)))))
 (.seq
 (.ops [⟨(some 36), none, .mov (tm 8)⟩,
   ⟨(some 37), none, .mov (tm 1)⟩,
   ⟨(some 38), none, .bin .shl 3 (kc 1) (tm 37)⟩,
   ⟨(some 39), none, .call 60 [(tm 36), (tm 38)] 100⟩,
   ⟨(some 35), none, .mov (tm 39)⟩,
   ⟨(some 40), none, .extract (tm 35) 0⟩,
   ⟨(some 41), none, .extract (tm 35) 1⟩,
   ⟨(some 10), none, .alloc 99 [(.int .i64 0), (.int .i64 0), (.int .i64 0), (.int .i64 0), (.int .i64 0), (.int .i64 0)]⟩,
   ⟨none, none, .store 99 (tm 10) (tm 40) 6⟩,
   ⟨(some 11), none, .mov (tm 41)⟩])
 (.seq
 (.ops [⟨(some 43), none, .mov (tm 8)⟩,
   ⟨(some 44), none, .mov (tm 2)⟩,
   ⟨(some 45), none, .bin .shl 3 (kc 1) (tm 44)⟩,
   ⟨(some 46), none, .call 60 [(tm 43), (tm 45)] 100⟩,
   ⟨(some 42), none, .mov (tm 46)⟩,
   ⟨(some 47), none, .extract (tm 42) 0⟩,
   ⟨(some 48), none, .extract (tm 42) 1⟩,
   ⟨(some 12), none, .alloc 99 [(.int .i64 0), (.int .i64 0), (.int .i64 0), (.int .i64 0), (.int .i64 0), (.int .i64 0)]⟩,
   ⟨none, none, .store 99 (tm 12) (tm 47) 6⟩,
   ⟨(some 13), none, .mov (tm 48)⟩])
 (.seq
 (.seq
 (.dops [(⟨(some 50), none, .mov (tm 8)⟩, []),
   (⟨(some 51), none, .mov (tm 1)⟩, []),
   (⟨(some 52), none, .bin .shl 3 (kc 1) (tm 51)⟩, [1]),
   (⟨(some 53), none, .mov (tm 2)⟩, []),
   (⟨(some 54), none, .bin .shl 3 (kc 1) (tm 53)⟩, [3]),
   (⟨(some 55), none, .bin .or 3 (tm 52) (tm 54)⟩, [2, 4]),
   (⟨(some 56), none, .call 60 [(tm 50), (tm 55)] 100⟩, [0, 5]),
   (⟨(some 49), none, .mov (tm 56)⟩, [6]),
   (⟨(some 57), none, .extract (tm 49) 0⟩, [7]),
   (⟨(some 58), none, .extract (tm 49) 1⟩, [7]),
   (⟨(some 14), none, .alloc 99 [(.int .i64 0), (.int .i64 0), (.int .i64 0), (.int .i64 0), (.int .i64 0), (.int .i64 0)]⟩, []),
   (⟨none, none, .store 99 (tm 14) (tm 57) 6⟩, [10, 8, 6, 0, 1, 2, 3, 4, 5, 6, 7, 8, 10]),
   (⟨(some 15), none, .mov (tm 58)⟩, [9, 11, 0, 1, 2, 3, 4, 5, 6, 7, 8, 9, 10, 11])])
 (.block 1
  (.seq
  (.ops [⟨(some 60), none, .mov (tm 11)⟩,
    ⟨(some 61), none, .bin .eql 3 (tm 60) (kc 1)⟩,
    ⟨(some 62), none, .mov (tm 61)⟩,
    ⟨(some 63), some (62, true), .mov (tm 13)⟩,
    ⟨(some 64), some (62, true), .bin .eql 3 (tm 63) (kc 1)⟩,
    ⟨(some 65), none, .pick (tm 62) (tm 64) (.const (.bool false))⟩,
    ⟨(some 66), none, .mov (tm 65)⟩,
    ⟨(some 67), some (66, true), .load 99 (tm 10) (some 6)⟩,
    ⟨(some 68), some (66, true), .load 99 (tm 12) (some 6)⟩,
    ⟨(some 69), some (66, true), .eqT false 99 (tm 67) (tm 68)⟩,
    ⟨(some 70), none, .pick (tm 66) (tm 69) (.const (.bool false))⟩,
    ⟨(some 59), none, .mov (tm 70)⟩])
  (.ite (tm 59)
   (.seq
   (.ops [⟨(some 6), none, .mov (kc 1)⟩,
     ⟨(some 7), none, .mov (kc 0)⟩])
   .ret)
   (.seq
   (.ops [⟨(some 72), none, .mov (tm 15)⟩,
     ⟨(some 73), none, .bin .eql 3 (tm 72) (kc 0)⟩,
     ⟨(some 71), none, .mov (tm 73)⟩])
   (.ite (tm 71)
    (.seq
    (.ops [⟨(some 6), none, .mov (kc 2)⟩,
      ⟨(some 7), none, .mov (kc 0)⟩])
    .ret)
    .skip))))))
 (.seq
 (.ops [⟨(some 6), none, .mov (kc 0)⟩,
   ⟨(some 7), none, .mov (kc 0)⟩])
 .ret)))))))
theorem fn29 : FnOK Try.prog 29 74 [.tmp 6, .tmp 7] L29 := ⟨Try.f29, Try.func29, by kernel_rfl, Try.ntmps29, by rw [Try.results29], by kernel_rfl⟩
def L30 : LCode :=
 (.seq
 (.ops [⟨(some 3), none, .box 25 (tm 0)⟩,
   ⟨(some 6), none, .mov (kc 0)⟩,
   ⟨(some 7), none, .mov (kc 0)⟩])
 (.seq
 (.ops [⟨(some 10), none, .load 25 (tm 3) (some 3)⟩,
   ⟨(some 11), none, .mov (tm 1)⟩,
   ⟨(some 12), none, .mov (tm 2)⟩,
   ⟨(some 13), none, .bslice 32 2 [(0, (tm 11)), (1, (tm 12))] 3 1 [(.int .i64 0)]⟩,
   ⟨(some 14), none, .faddr 25 (tm 3) 2 2⟩,
   ⟨(some 15), none, .load 23 (tm 14) none⟩,
   ⟨(some 16), none, .len false 23 3 (tm 15)⟩,
   ⟨(some 17), none, .call 71 [(tm 10), (tm 13), (tm 16)] 26⟩,
   ⟨(some 8), none, .mov (tm 17)⟩])
 (.seq
 (.seq
 (.ops [⟨(some 18), none, .mov (tm 8)⟩,
   ⟨(some 19), none, .bin .eql 26 (tm 18) (kc 0)⟩,
   ⟨(some 20), none, .mov (tm 19)⟩,
   ⟨(some 21), some (20, true), .mov (tm 1)⟩,
   ⟨(some 22), some (20, true), .mov (tm 2)⟩,
   ⟨(some 23), some (20, true), .bin .eql 3 (tm 21) (tm 22)⟩,
   ⟨(some 24), none, .pick (tm 20) (tm 23) (.const (.bool false))⟩])
 (.ite (tm 24)
  (.ops [⟨(some 8), none, .mov (kc 2)⟩])
  .skip))
 (.seq
 (.seq
 (.ops [⟨(some 25), none, .mov (tm 8)⟩,
   ⟨(some 26), none, .bin .neq 26 (tm 25) (kc 0)⟩])
 (.ite (tm 26)
  (.seq
  (.ops [⟨(some 27), none, .mov (tm 8)⟩,
    ⟨(some 6), none, .mov (kc 0)⟩,
    ⟨(some 7), none, .mov (tm 27)⟩])
  .ret)
  .skip))
 (.seq
 (.dops [(⟨(some 28), none, .load 25 (tm 3) (some 3)⟩, []),
   (⟨(some 29), none, .faddr 25 (tm 3) 2 2⟩, []),
   (⟨(some 30), none, .load 23 (tm 29) none⟩, [1]),
   (⟨(some 31), none, .mov (tm 1)⟩, []),
   (⟨(some 32), none, .iaddr 23 (tm 30) (tm 31) 2⟩, [2, 3]),
   (⟨(some 33), none, .load 55 (tm 32) (some 2)⟩, [4]),
   (⟨(some 34), none, .call 63 [(tm 28), (tm 33)] 104⟩, [0, 5]),
   (⟨(some 35), none, .call 62 [(tm 34)] 3⟩, [6, 6]),
   (⟨(some 36), none, .load 25 (tm 3) (some 3)⟩, []),
   (⟨(some 37), none, .faddr 25 (tm 3) 2 2⟩, []),
   (⟨(some 38), none, .load 23 (tm 37) none⟩, [9]),
   (⟨(some 39), none, .mov (tm 2)⟩, []),
   (⟨(some 40), none, .iaddr 23 (tm 38) (tm 39) 2⟩, [10, 11]),
   (⟨(some 41), none, .load 55 (tm 40) (some 2)⟩, [12]),
   (⟨(some 42), none, .call 63 [(tm 36), (tm 41)] 104⟩, [8, 13, 7]),
   (⟨(some 43), none, .call 62 [(tm 42)] 3⟩, [14, 14]),
   (⟨(some 44), none, .bin .mul 3 (tm 35) (tm 43)⟩, [7, 15]),
   (⟨(some 9), none, .mov (tm 44)⟩, [16, 15, 0, 1, 2, 3, 4, 5, 6, 7, 8, 9, 10, 11, 12, 13, 14, 15, 16])])
 (.seq
 (.ops [⟨(some 45), none, .load 25 (tm 3) (some 3)⟩,
   ⟨(some 46), none, .mov (tm 1)⟩,
   ⟨(some 47), none, .mov (tm 2)⟩,
   ⟨(some 48), none, .bslice 32 2 [(0, (tm 46)), (1, (tm 47))] 3 1 [(.int .i64 0)]⟩,
   ⟨(some 49), none, .call 73 [(tm 45), (tm 48)] 104⟩,
   ⟨(some 50), none, .call 62 [(tm 49)] 3⟩,
   ⟨(some 51), none, .mov (tm 9)⟩,
   ⟨(some 52), none, .call 72 [(tm 50), (tm 51)] 3⟩,
   ⟨(some 6), none, .mov (tm 52)⟩,
   ⟨(some 7), none, .mov (kc 0)⟩])
 .ret))))))
theorem fn30 : FnOK Try.prog 30 53 [.tmp 6, .tmp 7] L30 := ⟨Try.f30, Try.func30, by kernel_rfl, Try.ntmps30, by rw [Try.results30], by kernel_rfl⟩
def L31 : LCode :=
 (.seq
 (.ops [⟨(some 1), none, .box 25 (tm 0)⟩,
   ⟨(some 2), none, .mov (.const (.slice none 0 0))⟩,
   ⟨(some 3), none, .mov (kc 0)⟩])
 (.seq
 (.ops [⟨(some 12), none, .load 25 (tm 1) (some 3)⟩,
   ⟨(some 13), none, .call 59 [(tm 12), (kc 0), (.const (.slice none 0 0))] 95⟩,
   ⟨(some 11), none, .mov (tm 13)⟩,
   ⟨(some 14), none, .extract (tm 11) 0⟩,
   ⟨(some 15), none, .extract (tm 11) 1⟩,
   ⟨(some 4), none, .mov (tm 14)⟩,
   ⟨(some 5), none, .mov (tm 15)⟩])
 (.seq
 (.seq
 (.ops [⟨(some 16), none, .mov (tm 5)⟩,
   ⟨(some 17), none, .bin .neq 26 (tm 16) (kc 0)⟩])
 (.ite (tm 17)
  (.seq
  (.ops [⟨(some 18), none, .mov (tm 5)⟩,
    ⟨(some 2), none, .mov (.const (.slice none 0 0))⟩,
    ⟨(some 3), none, .mov (tm 18)⟩])
  .ret)
  .skip))
 (.seq
 (.ops [⟨(some 19), none, .faddr 25 (tm 1) 2 2⟩,
   ⟨(some 20), none, .load 23 (tm 19) none⟩,
   ⟨(some 21), none, .len false 23 3 (tm 20)⟩,
   ⟨(some 6), none, .mov (tm 21)⟩])
 (.seq
 (.ops [⟨(some 22), none, .mov (tm 6)⟩,
   ⟨(some 23), none, .bin .shl 3 (kc 1) (tm 22)⟩,
   ⟨(some 24), none, .bin .sub 3 (tm 23) (kc 1)⟩,
   ⟨(some 25), none, .mov (tm 6)⟩,
   ⟨(some 26), none, .call 74 [(tm 24), (tm 25)] 32⟩,
   ⟨(some 7), none, .mov (tm 26)⟩])
 (.seq
 (.seq
 (.ops [⟨(some 27), none, .mov (tm 4)⟩,
   ⟨(some 28), none, .nilck (tm 27)⟩,
   ⟨(some 29), none, .faddr 112 (tm 28) 1 3⟩,
   ⟨(some 30), none, .load 110 (tm 29) none⟩,
   ⟨(some 31), none, .range 110 (tm 30) false⟩])
 (.block 0
  (.loop
   (.seq
   (.ops [⟨(some 32), none, .next (tm 31) false 0⟩,
     ⟨(some 33), none, .extract (tm 32) 0⟩])
   (.seq
   (.ite (tm 33)
    .skip
    (.exit 0))
   (.block 1
    (.seq
    (.ops [⟨(some 34), none, .entry (tm 31)⟩,
      ⟨(some 35), none, .extract (tm 34) 1⟩,
      ⟨(some 9), none, .mov (tm 35)⟩])
    (.seq
    (.ops [⟨(some 36), none, .mov (tm 6)⟩,
      ⟨(some 37), none, .bin .shl 3 (kc 1) (tm 36)⟩,
      ⟨(some 38), none, .bin .sub 3 (tm 37) (kc 1)⟩,
      ⟨(some 39), none, .mov (tm 9)⟩,
      ⟨(some 40), none, .bin .andNot 3 (tm 38) (tm 39)⟩,
      ⟨(some 41), none, .mov (tm 6)⟩,
      ⟨(some 42), none, .call 74 [(tm 40), (tm 41)] 32⟩,
      ⟨(some 10), none, .mov (tm 42)⟩])
    (.seq
    (.ops [⟨(some 43), none, .mov (tm 10)⟩,
      ⟨(some 44), none, .len false 32 3 (tm 43)⟩,
      ⟨(some 45), none, .mov (tm 7)⟩,
      ⟨(some 46), none, .len false 32 3 (tm 45)⟩,
      ⟨(some 47), none, .bin .lss 3 (tm 44) (tm 46)⟩,
      ⟨(some 48), none, .mov (tm 47)⟩,
      ⟨(some 49), some (48, false), .mov (tm 10)⟩,
      ⟨(some 50), some (48, false), .len false 32 3 (tm 49)⟩,
      ⟨(some 51), some (48, false), .mov (tm 7)⟩,
      ⟨(some 52), some (48, false), .len false 32 3 (tm 51)⟩,
      ⟨(some 53), some (48, false), .bin .eql 3 (tm 50) (tm 52)⟩,
      ⟨(some 54), some (48, false), .mov (tm 53)⟩,
      ⟨(some 55), some (54, true), .mov (tm 10)⟩,
      ⟨(some 56), some (54, true), .mov (tm 7)⟩,
      ⟨(some 57), some (54, true), .call 75 [(tm 55), (tm 56)] 3⟩,
      ⟨(some 58), some (54, true), .bin .lss 3 (tm 57) (kc 0)⟩,
      ⟨(some 59), some (48, false), .pick (tm 54) (tm 58) (.const (.bool false))⟩,
      ⟨(some 60), none, .pick (tm 48) (.const (.bool true)) (tm 59)⟩])
    (.ite (tm 60)
     (.ops [⟨(some 61), none, .mov (tm 10)⟩,
       ⟨(some 7), none, .mov (tm 61)⟩])
     .skip))))))))))
 (.seq
 (.ops [⟨(some 62), none, .mov (tm 7)⟩,
   ⟨(some 2), none, .mov (tm 62)⟩,
   ⟨(some 3), none, .mov (kc 0)⟩])
 .ret)))))))
theorem fn31 : FnOK Try.prog 31 63 [.tmp 2, .tmp 3] L31 := ⟨Try.f31, Try.func31, by kernel_rfl, Try.ntmps31, by rw [Try.results31], by kernel_rfl⟩
def L32 : LCode :=
 (.seq
 (.ops [⟨(some 1), none, .box 25 (tm 0)⟩,
   ⟨(some 2), none, .mov (.const (.slice none 0 0))⟩,
   ⟨(some 3), none, .mov (kc 0)⟩])
 (.seq
 (.ops [⟨(some 8), none, .load 25 (tm 1) (some 3)⟩,
   ⟨(some 9), none, .call 71 [(tm 8), (.const (.slice none 0 0)), (kc 0)] 26⟩,
   ⟨(some 4), none, .mov (tm 9)⟩])
 (.seq
 (.seq
 (.ops [⟨(some 10), none, .mov (tm 4)⟩,
   ⟨(some 11), none, .bin .neq 26 (tm 10) (kc 0)⟩])
 (.ite (tm 11)
  (.seq
  (.ops [⟨(some 12), none, .mov (tm 4)⟩,
    ⟨(some 2), none, .mov (.const (.slice none 0 0))⟩,
    ⟨(some 3), none, .mov (tm 12)⟩])
  .ret)
  .skip))
 (.seq
 (.seq
 (.ops [⟨(some 5), none, .mov (kc 0)⟩])
 (.block 0
  (.loop
   (.seq
   (.seq
   (.ops [⟨(some 13), none, .mov (tm 5)⟩,
     ⟨(some 14), none, .faddr 25 (tm 1) 2 2⟩,
     ⟨(some 15), none, .load 23 (tm 14) none⟩,
     ⟨(some 16), none, .len false 23 3 (tm 15)⟩,
     ⟨(some 17), none, .bin .lss 3 (tm 13) (tm 16)⟩])
   (.ite (tm 17)
    .skip
    (.exit 0)))
   (.seq
   (.block 1
    (.seq
    (.ops [⟨(some 20), none, .faddr 25 (tm 1) 2 2⟩,
      ⟨(some 21), none, .load 23 (tm 20) none⟩,
      ⟨(some 22), none, .len false 23 3 (tm 21)⟩,
      ⟨(some 23), none, .mov (tm 5)⟩,
      ⟨(some 24), none, .call 76 [(tm 22), (tm 23)] 120⟩,
      ⟨(some 6), none, .mov (tm 24)⟩])
    (.seq
    (.ops [⟨(some 7), none, .mov (kc 0)⟩])
    (.block 2
     (.loop
      (.seq
      (.seq
      (.ops [⟨(some 25), none, .mov (tm 7)⟩,
        ⟨(some 26), none, .mov (tm 6)⟩,
        ⟨(some 27), none, .len false 120 3 (tm 26)⟩,
        ⟨(some 28), none, .bin .lss 3 (tm 25) (tm 27)⟩])
      (.ite (tm 28)
       .skip
       (.exit 2)))
      (.seq
      (.block 3
       (.seq
       (.dops [(⟨(some 31), none, .load 25 (tm 1) (some 3)⟩, []),
         (⟨(some 32), none, .load 25 (tm 1) (some 3)⟩, []),
         (⟨(some 33), none, .mov (tm 6)⟩, []),
         (⟨(some 34), none, .mov (tm 7)⟩, []),
         (⟨(some 35), none, .iaddr 120 (tm 33) (tm 34) 1⟩, [2, 3]),
         (⟨(some 36), none, .load 32 (tm 35) none⟩, [4]),
         (⟨(some 37), none, .call 43 [(tm 32), (tm 36)] 32⟩, [1, 5]),
         (⟨(some 38), none, .call 73 [(tm 31), (tm 37)] 104⟩, [0, 6, 6]),
         (⟨(some 39), none, .call 66 [(tm 38)] 3⟩, [7, 7]),
         (⟨(some 40), none, .bin .geq 3 (tm 39) (kc 0)⟩, [8])])
       (.ite (tm 40)
        (.seq
        (.ops [⟨(some 41), none, .mov (tm 6)⟩,
          ⟨(some 42), none, .mov (tm 7)⟩,
          ⟨(some 43), none, .iaddr 120 (tm 41) (tm 42) 1⟩,
          ⟨(some 44), none, .load 32 (tm 43) none⟩,
          ⟨(some 2), none, .mov (tm 44)⟩,
          ⟨(some 3), none, .mov (kc 0)⟩])
        .ret)
        .skip)))
      (.ops [⟨(some 29), none, .mov (tm 7)⟩,
        ⟨(some 30), none, .bin .add 3 (tm 29) (kc 1)⟩,
        ⟨(some 7), none, .mov (tm 30)⟩]))))))))
   (.ops [⟨(some 18), none, .mov (tm 5)⟩,
     ⟨(some 19), none, .bin .add 3 (tm 18) (kc 1)⟩,
     ⟨(some 5), none, .mov (tm 19)⟩]))))))
 (.seq
 (.ops [⟨(some 2), none, .mov (.const (.slice none 0 0))⟩,
   ⟨(some 3), none, .mov (kc 0)⟩])
 .ret)))))
theorem fn32 : FnOK Try.prog 32 45 [.tmp 2, .tmp 3] L32 := ⟨Try.f32, Try.func32, by kernel_rfl, Try.ntmps32, by rw [Try.results32], by kernel_rfl⟩
def L33 : LCode :=
 (.seq
 (.ops [⟨(some 2), none, .box 25 (tm 0)⟩,
   ⟨(some 4), none, .mov (.const (.slice none 0 0))⟩,
   ⟨(some 5), none, .mov (kc 0)⟩])
 (.seq
 (.ops [⟨(some 15), none, .load 25 (tm 2) (some 3)⟩,
   ⟨(some 16), none, .faddr 25 (tm 2) 2 2⟩,
   ⟨(some 17), none, .load 23 (tm 16) none⟩,
   ⟨(some 18), none, .len false 23 3 (tm 17)⟩,
   ⟨(some 19), none, .mov (tm 1)⟩,
   ⟨(some 20), none, .call 59 [(tm 15), (tm 18), (tm 19)] 95⟩,
   ⟨(some 14), none, .mov (tm 20)⟩,
   ⟨(some 21), none, .extract (tm 14) 0⟩,
   ⟨(some 22), none, .extract (tm 14) 1⟩,
   ⟨(some 6), none, .mov (tm 21)⟩,
   ⟨(some 7), none, .mov (tm 22)⟩])
 (.seq
 (.seq
 (.ops [⟨(some 23), none, .mov (tm 7)⟩,
   ⟨(some 24), none, .bin .neq 26 (tm 23) (kc 0)⟩])
 (.ite (tm 24)
  (.seq
  (.ops [⟨(some 25), none, .mov (tm 7)⟩,
    ⟨(some 4), none, .mov (.const (.slice none 0 0))⟩,
    ⟨(some 5), none, .mov (tm 25)⟩])
  .ret)
  .skip))
 (.seq
 (.ops [⟨(some 8), none, .mov (kc 0)⟩,
   ⟨(some 9), none, .mov (kc (-1))⟩])
 (.seq
 (.seq
 (.ops [⟨(some 26), none, .mov (tm 1)⟩,
   ⟨(some 27), none, .len false 32 3 (tm 26)⟩,
   ⟨(some 28), none, .mov (kc 0)⟩])
 (.block 0
  (.loop
   (.seq
   (.ops [⟨(some 29), none, .bin .lss 3 (tm 28) (tm 27)⟩])
   (.seq
   (.ite (tm 29)
    .skip
    (.exit 0))
   (.seq
   (.block 1
    (.seq
    (.ops [⟨(some 30), none, .iaddr 32 (tm 26) (tm 28) 1⟩,
      ⟨(some 31), none, .load 3 (tm 30) none⟩,
      ⟨(some 11), none, .mov (tm 31)⟩])
    (.seq
    (.seq
    (.ops [⟨(some 32), none, .mov (tm 11)⟩,
      ⟨(some 33), none, .mov (tm 9)⟩,
      ⟨(some 34), none, .bin .leq 3 (tm 32) (tm 33)⟩])
    (.ite (tm 34)
     (.seq
     (.ops [⟨(some 4), none, .mov (.const (.slice none 0 0))⟩,
       ⟨(some 5), none, .mov (kc 2)⟩])
     .ret)
     .skip))
    (.ops [⟨(some 35), none, .mov (tm 8)⟩,
      ⟨(some 36), none, .mov (tm 11)⟩,
      ⟨(some 37), none, .bin .shl 3 (kc 1) (tm 36)⟩,
      ⟨(some 38), none, .bin .or 3 (tm 35) (tm 37)⟩,
      ⟨(some 39), none, .mov (tm 11)⟩,
      ⟨(some 8), none, .mov (tm 38)⟩,
      ⟨(some 9), none, .mov (tm 39)⟩]))))
   (.ops [⟨(some 40), none, .bin .add 3 (tm 28) (kc 1)⟩,
     ⟨(some 28), none, .mov (tm 40)⟩])))))))
 (.seq
 (.seq
 (.ops [⟨(some 41), none, .mov (tm 8)⟩,
   ⟨(some 42), none, .bin .eql 3 (tm 41) (kc 0)⟩])
 (.ite (tm 42)
  (.seq
  (.ops [⟨(some 4), none, .mov (.const (.slice none 0 0))⟩,
    ⟨(some 5), none, .mov (kc 2)⟩])
  .ret)
  .skip))
 (.seq
 (.ops [⟨(some 44), none, .mov (tm 6)⟩,
   ⟨(some 45), none, .mov (tm 8)⟩,
   ⟨(some 46), none, .call 60 [(tm 44), (tm 45)] 100⟩,
   ⟨(some 43), none, .mov (tm 46)⟩,
   ⟨(some 47), none, .extract (tm 43) 0⟩,
   ⟨(some 48), none, .extract (tm 43) 1⟩,
   ⟨(some 12), none, .alloc 99 [(.int .i64 0), (.int .i64 0), (.int .i64 0), (.int .i64 0), (.int .i64 0), (.int .i64 0)]⟩,
   ⟨none, none, .store 99 (tm 12) (tm 47) 6⟩,
   ⟨(some 13), none, .mov (tm 48)⟩])
 (.seq
 (.seq
 (.ops [⟨(some 49), none, .mov (tm 13)⟩,
   ⟨(some 50), none, .bin .eql 3 (tm 49) (kc 0)⟩])
 (.ite (tm 50)
  (.seq
  (.ops [⟨(some 4), none, .mov (.const (.slice none 0 0))⟩,
    ⟨(some 5), none, .mov (kc 9)⟩])
  .ret)
  .skip))
 (.seq
 (.ops [⟨(some 51), none, .load 99 (tm 12) (some 6)⟩,
   ⟨(some 52), none, .call 64 [(tm 51)] 32⟩,
   ⟨(some 4), none, .mov (tm 52)⟩,
   ⟨(some 5), none, .mov (kc 0)⟩])
 .ret)))))))))
theorem fn33 : FnOK Try.prog 33 53 [.tmp 4, .tmp 5] L33 := ⟨Try.f33, Try.func33, by kernel_rfl, Try.ntmps33, by rw [Try.results33], by kernel_rfl⟩
def L34 : LCode :=
 (.seq
 (.ops [⟨(some 2), none, .box 25 (tm 0)⟩,
   ⟨(some 4), none, .mov (.const (.slice none 0 0))⟩,
   ⟨(some 5), none, .mov (kc 0)⟩])
 (.seq
 (.ops [⟨(some 8), none, .load 25 (tm 2) (some 3)⟩,
   ⟨(some 9), none, .mov (tm 1)⟩,
   ⟨(some 10), none, .faddr 25 (tm 2) 2 2⟩,
   ⟨(some 11), none, .load 23 (tm 10) none⟩,
   ⟨(some 12), none, .len false 23 3 (tm 11)⟩,
   ⟨(some 13), none, .call 71 [(tm 8), (tm 9), (tm 12)] 26⟩,
   ⟨(some 6), none, .mov (tm 13)⟩])
 (.seq
 (.seq
 (.ops [⟨(some 14), none, .mov (tm 6)⟩,
   ⟨(some 15), none, .bin .eql 26 (tm 14) (kc 0)⟩,
   ⟨(some 16), none, .mov (tm 15)⟩,
   ⟨(some 17), some (16, true), .mov (tm 1)⟩,
   ⟨(some 18), some (16, true), .len false 32 3 (tm 17)⟩,
   ⟨(some 19), some (16, true), .bin .eql 3 (tm 18) (kc 0)⟩,
   ⟨(some 20), some (16, true), .mov (tm 19)⟩,
   ⟨(some 21), some (20, false), .mov (tm 1)⟩,
   ⟨(some 22), some (20, false), .faddr 25 (tm 2) 2 2⟩,
   ⟨(some 23), some (20, false), .load 23 (tm 22) none⟩,
   ⟨(some 24), some (20, false), .len false 23 3 (tm 23)⟩,
   ⟨(some 25), some (20, false), .call 42 [(tm 21), (tm 24)] 4⟩,
   ⟨(some 26), some (20, false), .un .not (tm 25)⟩,
   ⟨(some 27), some (16, true), .pick (tm 20) (.const (.bool true)) (tm 26)⟩,
   ⟨(some 28), none, .pick (tm 16) (tm 27) (.const (.bool false))⟩])
 (.ite (tm 28)
  (.ops [⟨(some 6), none, .mov (kc 2)⟩])
  .skip))
 (.seq
 (.seq
 (.ops [⟨(some 29), none, .mov (tm 6)⟩,
   ⟨(some 30), none, .bin .neq 26 (tm 29) (kc 0)⟩])
 (.ite (tm 30)
  (.seq
  (.ops [⟨(some 31), none, .mov (tm 6)⟩,
    ⟨(some 4), none, .mov (.const (.slice none 0 0))⟩,
    ⟨(some 5), none, .mov (tm 31)⟩])
  .ret)
  .skip))
 (.seq
 (.ops [⟨(some 32), none, .load 25 (tm 2) (some 3)⟩,
   ⟨(some 33), none, .mov (tm 1)⟩,
   ⟨(some 34), none, .call 73 [(tm 32), (tm 33)] 104⟩,
   ⟨(some 35), none, .call 66 [(tm 34)] 3⟩,
   ⟨(some 7), none, .mov (tm 35)⟩])
 (.seq
 (.seq
 (.ops [⟨(some 36), none, .mov (tm 7)⟩,
   ⟨(some 37), none, .bin .lss 3 (tm 36) (kc 0)⟩])
 (.ite (tm 37)
  (.seq
  (.ops [⟨(some 4), none, .mov (.const (.slice none 0 0))⟩,
    ⟨(some 5), none, .mov (kc 9)⟩])
  .ret)
  .skip))
 (.seq
 (.ops [⟨(some 38), none, .mov (tm 7)⟩,
   ⟨(some 39), none, .call 65 [(tm 38)] 32⟩,
   ⟨(some 4), none, .mov (tm 39)⟩,
   ⟨(some 5), none, .mov (kc 0)⟩])
 .ret)))))))
theorem fn34 : FnOK Try.prog 34 40 [.tmp 4, .tmp 5] L34 := ⟨Try.f34, Try.func34, by kernel_rfl, Try.ntmps34, by rw [Try.results34], by kernel_rfl⟩
def L35 : LCode :=
 (.seq
 (.ops [⟨(some 3), none, .box 25 (tm 0)⟩,
   ⟨(some 6), none, .mov (.const (.string ⟨#[]⟩))⟩,
   ⟨(some 7), none, .mov (kc 0)⟩])
 (.seq
 (.ops [⟨(some 17), none, .load 25 (tm 3) (some 3)⟩,
   ⟨(some 18), none, .faddr 25 (tm 3) 1 1⟩,
   ⟨(some 19), none, .load 22 (tm 18) none⟩,
   ⟨(some 20), none, .len false 22 3 (tm 19)⟩,
   ⟨(some 21), none, .mov (tm 1)⟩,
   ⟨(some 22), none, .bslice 32 1 [(0, (tm 21))] 3 1 [(.int .i64 0)]⟩,
   ⟨(some 23), none, .call 59 [(tm 17), (tm 20), (tm 22)] 95⟩,
   ⟨(some 16), none, .mov (tm 23)⟩,
   ⟨(some 24), none, .extract (tm 16) 0⟩,
   ⟨(some 25), none, .extract (tm 16) 1⟩,
   ⟨(some 8), none, .mov (tm 24)⟩,
   ⟨(some 9), none, .mov (tm 25)⟩])
 (.seq
 (.seq
 (.ops [⟨(some 26), none, .mov (tm 9)⟩,
   ⟨(some 27), none, .bin .neq 26 (tm 26) (kc 0)⟩])
 (.ite (tm 27)
  (.seq
  (.ops [⟨(some 28), none, .mov (tm 9)⟩,
    ⟨(some 6), none, .mov (.const (.string ⟨#[]⟩))⟩,
    ⟨(some 7), none, .mov (tm 28)⟩])
  .ret)
  .skip))
 (.seq
 (.ops [⟨(some 30), none, .mov (tm 8)⟩,
   ⟨(some 31), none, .mov (tm 2)⟩,
   ⟨(some 32), none, .call 68 [(tm 30), (tm 31)] 108⟩,
   ⟨(some 29), none, .mov (tm 32)⟩,
   ⟨(some 33), none, .extract (tm 29) 0⟩,
   ⟨(some 34), none, .extract (tm 29) 1⟩,
   ⟨(some 10), none, .alloc 99 [(.int .i64 0), (.int .i64 0), (.int .i64 0), (.int .i64 0), (.int .i64 0), (.int .i64 0)]⟩,
   ⟨none, none, .store 99 (tm 10) (tm 33) 6⟩,
   ⟨(some 9), none, .mov (tm 34)⟩])
 (.seq
 (.seq
 (.ops [⟨(some 35), none, .mov (tm 9)⟩,
   ⟨(some 36), none, .bin .neq 26 (tm 35) (kc 0)⟩])
 (.ite (tm 36)
  (.seq
  (.ops [⟨(some 37), none, .mov (tm 9)⟩,
    ⟨(some 6), none, .mov (.const (.string ⟨#[]⟩))⟩,
    ⟨(some 7), none, .mov (tm 37)⟩])
  .ret)
  .skip))
 (.seq
 (.ops [⟨(some 38), none, .faddr 25 (tm 3) 1 1⟩,
   ⟨(some 39), none, .load 22 (tm 38) none⟩,
   ⟨(some 40), none, .mov (tm 1)⟩,
   ⟨(some 41), none, .iaddr 22 (tm 39) (tm 40) 2⟩,
   ⟨(some 42), none, .faddr 67 (tm 41) 1 1⟩,
   ⟨(some 43), none, .load 65 (tm 42) none⟩,
   ⟨(some 11), none, .alloc 65 [(.slice none 0 0)]⟩,
   ⟨none, none, .store 65 (tm 11) (tm 43) 1⟩])
 (.seq
 (.ops [⟨(some 12), none, .alloc 122 [.nilFunc]⟩])
 (.seq
 (.ops [⟨(some 44), none, .mkfn (.func 77) [] [(tm 10), (tm 11), (tm 12)]⟩,
   ⟨none, none, .store 122 (tm 12) (tm 44) 1⟩])
 (.seq
 (.seq
 (.ops [⟨(some 13), none, .mov (kc 1)⟩])
 (.block 0
  (.loop
   (.seq
   (.seq
   (.ops [⟨(some 45), none, .mov (tm 13)⟩,
     ⟨(some 46), none, .bin .leq 3 (tm 45) (kc 5)⟩])
   (.ite (tm 46)
    .skip
    (.exit 0)))
   (.seq
   (.block 1
    (.seq
    (.ops [⟨(some 50), none, .load 122 (tm 12) none⟩,
      ⟨(some 51), none, .mov (tm 13)⟩,
      ⟨(some 52), none, .callv (tm 50) [(kc 0), (tm 51)] 123⟩,
      ⟨(some 49), none, .mov (tm 52)⟩,
      ⟨(some 53), none, .extract (tm 49) 0⟩,
      ⟨(some 54), none, .extract (tm 49) 1⟩,
      ⟨(some 14), none, .mov (tm 53)⟩,
      ⟨(some 15), none, .mov (tm 54)⟩])
    (.seq
    (.ops [⟨(some 55), none, .mov (tm 15)⟩])
    (.ite (tm 55)
     (.seq
     (.ops [⟨(some 56), none, .mov (tm 14)⟩,
       ⟨(some 6), none, .mov (tm 56)⟩,
       ⟨(some 7), none, .mov (kc 0)⟩])
     .ret)
     .skip))))
   (.ops [⟨(some 47), none, .mov (tm 13)⟩,
     ⟨(some 48), none, .bin .add 3 (tm 47) (kc 1)⟩,
     ⟨(some 13), none, .mov (tm 48)⟩]))))))
 (.seq
 (.ops [⟨(some 6), none, .mov (.const (.string ⟨#[]⟩))⟩,
   ⟨(some 7), none, .mov (kc 9)⟩])
 .ret))))))))))
theorem fn35 : FnOK Try.prog 35 57 [.tmp 6, .tmp 7] L35 := ⟨Try.f35, Try.func35, by kernel_rfl, Try.ntmps35, by rw [Try.results35], by kernel_rfl⟩
def L36 : LCode :=
 (.seq
 (.ops [⟨(some 3), none, .box 25 (tm 0)⟩,
   ⟨(some 6), none, .mov (.const (.string ⟨#[]⟩))⟩,
   ⟨(some 7), none, .mov (kc 0)⟩])
 (.seq
 (.dops [(⟨(some 17), none, .load 25 (tm 3) (some 3)⟩, []),
   (⟨(some 18), none, .mov (tm 2)⟩, []),
   (⟨(some 19), none, .load 25 (tm 3) (some 3)⟩, []),
   (⟨(some 20), none, .mov (tm 1)⟩, []),
   (⟨(some 21), none, .bslice 32 1 [(0, (tm 20))] 3 1 [(.int .i64 0)]⟩, [3]),
   (⟨(some 22), none, .faddr 25 (tm 3) 1 1⟩, []),
   (⟨(some 23), none, .load 22 (tm 22) none⟩, [5]),
   (⟨(some 24), none, .len false 22 3 (tm 23)⟩, [6]),
   (⟨(some 25), none, .call 71 [(tm 19), (tm 21), (tm 24)] 26⟩, [2, 4, 7]),
   (⟨(some 26), none, .call 69 [(tm 17), (tm 18), (tm 25)] 26⟩, [0, 1, 8, 8]),
   (⟨(some 8), none, .mov (tm 26)⟩, [9, 9, 0, 1, 2, 3, 4, 5, 6, 7, 8, 9])])
 (.seq
 (.seq
 (.ops [⟨(some 27), none, .mov (tm 8)⟩,
   ⟨(some 28), none, .bin .neq 26 (tm 27) (kc 0)⟩])
 (.ite (tm 28)
  (.seq
  (.ops [⟨(some 29), none, .mov (tm 8)⟩,
    ⟨(some 6), none, .mov (.const (.string ⟨#[]⟩))⟩,
    ⟨(some 7), none, .mov (tm 29)⟩])
  .ret)
  .skip))
 (.seq
 (.ops [⟨(some 30), none, .faddr 25 (tm 3) 1 1⟩,
   ⟨(some 31), none, .load 22 (tm 30) none⟩,
   ⟨(some 32), none, .mov (tm 1)⟩,
   ⟨(some 33), none, .iaddr 22 (tm 31) (tm 32) 2⟩,
   ⟨(some 34), none, .faddr 67 (tm 33) 1 1⟩,
   ⟨(some 35), none, .load 65 (tm 34) none⟩,
   ⟨(some 9), none, .mov (tm 35)⟩])
 (.seq
 (.ops [⟨(some 36), none, .bslice 32 1 [(0, (kc 0))] 3 1 [(.int .i64 0)]⟩,
   ⟨(some 37), none, .build 127 [(0, (.const (.string ⟨#[]⟩))), (1, (tm 36))] [(.string ⟨#[]⟩), (.slice none 0 0)] [(0, 1, (.const (.string ⟨#[]⟩))), (1, 1, (tm 36))]⟩,
   ⟨(some 38), none, .bslice 128 1 [(0, (tm 37))] 127 2 [(.string ⟨#[]⟩), (.slice none 0 0)]⟩,
   ⟨(some 10), none, .mov (tm 38)⟩])
 (.seq
 (.seq
 (.ops [⟨(some 11), none, .mov (kc 1)⟩])
 (.block 0
  (.loop
   (.seq
   (.seq
   (.ops [⟨(some 39), none, .mov (tm 11)⟩,
     ⟨(some 40), none, .bin .leq 3 (tm 39) (kc 5)⟩])
   (.ite (tm 40)
    .skip
    (.exit 0)))
   (.seq
   (.block 1
    (.seq
    (.ops [⟨(some 12), none, .mov (.const (.slice none 0 0))⟩])
    (.seq
    (.seq
    (.ops [⟨(some 13), none, .mov (kc 0)⟩])
    (.block 2
     (.loop
      (.seq
      (.seq
      (.ops [⟨(some 43), none, .mov (tm 13)⟩,
        ⟨(some 44), none, .mov (tm 10)⟩,
        ⟨(some 45), none, .len false 128 3 (tm 44)⟩,
        ⟨(some 46), none, .bin .lss 3 (tm 43) (tm 45)⟩])
      (.ite (tm 46)
       .skip
       (.exit 2)))
      (.seq
      (.block 3
       (.seq
       (.ops [⟨(some 14), none, .mov (kc 0)⟩])
       (.block 4
        (.loop
         (.seq
         (.seq
         (.ops [⟨(some 49), none, .mov (tm 14)⟩,
           ⟨(some 50), none, .mov (tm 9)⟩,
           ⟨(some 51), none, .len false 65 3 (tm 50)⟩,
           ⟨(some 52), none, .bin .lss 3 (tm 49) (tm 51)⟩])
         (.ite (tm 52)
          .skip
          (.exit 4)))
         (.seq
         (.block 5
          (.seq
          (.dops [(⟨(some 55), none, .mov (tm 9)⟩, []),
            (⟨(some 56), none, .mov (tm 14)⟩, []),
            (⟨(some 57), none, .iaddr 65 (tm 55) (tm 56) 3⟩, [0, 1]),
            (⟨(some 58), none, .load 69 (tm 57) (some 3)⟩, [2]),
            (⟨(some 59), none, .mov (tm 10)⟩, []),
            (⟨(some 60), none, .mov (tm 13)⟩, []),
            (⟨(some 61), none, .iaddr 128 (tm 59) (tm 60) 2⟩, [4, 5]),
            (⟨(some 62), none, .faddr 127 (tm 61) 1 1⟩, [6]),
            (⟨(some 63), none, .load 32 (tm 62) none⟩, [7]),
            (⟨(some 64), none, .mov (tm 2)⟩, []),
            (⟨(some 65), none, .call 80 [(tm 58), (tm 63), (tm 64)] 32⟩, [3, 8, 9]),
            (⟨(some 15), none, .mov (tm 65)⟩, [10, 10, 0, 1, 2, 3, 4, 5, 6, 7, 8, 9, 10])])
          (.seq
          (.ops [⟨(some 66), none, .mov (tm 15)⟩,
            ⟨(some 67), none, .len false 32 3 (tm 66)⟩,
            ⟨(some 68), none, .bin .gtr 3 (tm 67) (kc 0)⟩])
          (.ite (tm 68)
           (.dops [(⟨(some 69), none, .mov (tm 12)⟩, []),
             (⟨(some 70), none, .mov (tm 10)⟩, []),
             (⟨(some 71), none, .mov (tm 13)⟩, []),
             (⟨(some 72), none, .iaddr 128 (tm 70) (tm 71) 2⟩, [1, 2]),
             (⟨(some 73), none, .faddr 127 (tm 72) 0 0⟩, [3]),
             (⟨(some 74), none, .load 9 (tm 73) none⟩, [4]),
             (⟨(some 75), none, .mov (tm 9)⟩, []),
             (⟨(some 76), none, .mov (tm 14)⟩, []),
             (⟨(some 77), none, .iaddr 65 (tm 75) (tm 76) 3⟩, [6, 7]),
             (⟨(some 78), none, .faddr 69 (tm 77) 0 0⟩, [8]),
             (⟨(some 79), none, .load 5 (tm 78) none⟩, [9]),
             (⟨(some 80), none, .toInt .i32 5 21 (tm 79)⟩, [10]),
             (⟨(some 81), none, .conv 21 9 (tm 80)⟩, [11]),
             (⟨(some 82), none, .bin .add 9 (tm 74) (tm 81)⟩, [5, 12]),
             (⟨(some 83), none, .mov (tm 15)⟩, []),
             (⟨(some 84), none, .build 127 [(0, (tm 82)), (1, (tm 83))] [(.string ⟨#[]⟩), (.slice none 0 0)] [(0, 1, (tm 82)), (1, 1, (tm 83))]⟩, [13, 14]),
             (⟨(some 85), none, .bslice 128 1 [(0, (tm 84))] 127 2 [(.string ⟨#[]⟩), (.slice none 0 0)]⟩, [15]),
             (⟨(some 86), none, .append 128 128 (tm 69) (tm 85) 127 2 40 [(.string ⟨#[]⟩), (.slice none 0 0)]⟩, [0, 16]),
             (⟨(some 12), none, .mov (tm 86)⟩, [17, 17, 0, 1, 2, 3, 4, 5, 6, 7, 8, 9, 10, 11, 12, 13, 14, 15, 16, 17])])
           .skip))))
         (.ops [⟨(some 53), none, .mov (tm 14)⟩,
           ⟨(some 54), none, .bin .add 3 (tm 53) (kc 1)⟩,
           ⟨(some 14), none, .mov (tm 54)⟩])))))))
      (.ops [⟨(some 47), none, .mov (tm 13)⟩,
        ⟨(some 48), none, .bin .add 3 (tm 47) (kc 1)⟩,
        ⟨(some 13), none, .mov (tm 48)⟩]))))))
    (.seq
    (.seq
    (.ops [⟨(some 16), none, .mov (kc 0)⟩])
    (.block 6
     (.loop
      (.seq
      (.seq
      (.ops [⟨(some 87), none, .mov (tm 16)⟩,
        ⟨(some 88), none, .mov (tm 12)⟩,
        ⟨(some 89), none, .len false 128 3 (tm 88)⟩,
        ⟨(some 90), none, .bin .lss 3 (tm 87) (tm 89)⟩])
      (.ite (tm 90)
       .skip
       (.exit 6)))
      (.seq
      (.block 7
       (.seq
       (.ops [⟨(some 93), none, .mov (tm 12)⟩,
         ⟨(some 94), none, .mov (tm 16)⟩,
         ⟨(some 95), none, .iaddr 128 (tm 93) (tm 94) 2⟩,
         ⟨(some 96), none, .faddr 127 (tm 95) 1 1⟩,
         ⟨(some 97), none, .load 32 (tm 96) none⟩,
         ⟨(some 98), none, .mov (tm 2)⟩,
         ⟨(some 99), none, .len false 32 3 (tm 98)⟩,
         ⟨(some 100), none, .call 81 [(tm 97), (tm 99)] 4⟩])
       (.ite (tm 100)
        (.seq
        (.ops [⟨(some 101), none, .mov (tm 12)⟩,
          ⟨(some 102), none, .mov (tm 16)⟩,
          ⟨(some 103), none, .iaddr 128 (tm 101) (tm 102) 2⟩,
          ⟨(some 104), none, .faddr 127 (tm 103) 0 0⟩,
          ⟨(some 105), none, .load 9 (tm 104) none⟩,
          ⟨(some 6), none, .mov (tm 105)⟩,
          ⟨(some 7), none, .mov (kc 0)⟩])
        .ret)
        .skip)))
      (.ops [⟨(some 91), none, .mov (tm 16)⟩,
        ⟨(some 92), none, .bin .add 3 (tm 91) (kc 1)⟩,
        ⟨(some 16), none, .mov (tm 92)⟩]))))))
    (.ops [⟨(some 106), none, .mov (tm 12)⟩,
      ⟨(some 10), none, .mov (tm 106)⟩])))))
   (.ops [⟨(some 41), none, .mov (tm 11)⟩,
     ⟨(some 42), none, .bin .add 3 (tm 41) (kc 1)⟩,
     ⟨(some 11), none, .mov (tm 42)⟩]))))))
 (.seq
 (.ops [⟨(some 6), none, .mov (.const (.string ⟨#[]⟩))⟩,
   ⟨(some 7), none, .mov (kc 9)⟩])
 .ret)))))))
theorem fn36 : FnOK Try.prog 36 107 [.tmp 6, .tmp 7] L36 := ⟨Try.f36, Try.func36, by kernel_rfl, Try.ntmps36, by rw [Try.results36], by kernel_rfl⟩
def L37 : LCode :=
 (.seq
 (.ops [⟨(some 0), none, .alloc 25 [(.int .i64 0), (.slice none 0 0), (.slice none 0 0)]⟩])
 (.seq
 (.ops [⟨(some 3), none, .call 82 [(.const (.int .u8 97)), (kc 1), (.const (.bool false))] 69⟩,
   ⟨(some 4), none, .call 82 [(.const (.int .u8 101)), (kc 3), (.const (.bool false))] 69⟩,
   ⟨(some 5), none, .call 82 [(.const (.int .u8 107)), (kc 4), (.const (.bool false))] 69⟩,
   ⟨(some 6), none, .call 82 [(.const (.int .u8 104)), (kc 0), (.const (.bool true))] 69⟩,
   ⟨(some 7), none, .bslice 65 4 [(0, (tm 3)), (1, (tm 4)), (2, (tm 5)), (3, (tm 6))] 69 3 [(.int .u8 0), (.int .i64 0), (.bool false)]⟩,
   ⟨(some 8), none, .build 67 [(0, (.const (.string ⟨#[114, 111, 109, 97, 110]⟩))), (1, (tm 7))] [(.string ⟨#[]⟩), (.slice none 0 0)] [(0, 1, (.const (.string ⟨#[114, 111, 109, 97, 110]⟩))), (1, 1, (tm 7))]⟩,
   ⟨(some 1), none, .alloc 67 [(.string ⟨#[]⟩), (.slice none 0 0)]⟩,
   ⟨none, none, .store 67 (tm 1) (tm 8) 2⟩])
 (.seq
 (.ops [⟨(some 9), none, .call 82 [(.const (.int .u8 107)), (kc 4), (.const (.bool false))] 69⟩,
   ⟨(some 10), none, .call 82 [(.const (.int .u8 121)), (kc 2), (.const (.bool true))] 69⟩,
   ⟨(some 11), none, .call 82 [(.const (.int .u8 110)), (kc 1), (.const (.bool false))] 69⟩,
   ⟨(some 12), none, .bslice 65 3 [(0, (tm 9)), (1, (tm 10)), (2, (tm 11))] 69 3 [(.int .u8 0), (.int .i64 0), (.bool false)]⟩,
   ⟨(some 13), none, .build 67 [(0, (.const (.string ⟨#[97, 98, 106, 97, 100]⟩))), (1, (tm 12))] [(.string ⟨#[]⟩), (.slice none 0 0)] [(0, 1, (.const (.string ⟨#[97, 98, 106, 97, 100]⟩))), (1, 1, (tm 12))]⟩,
   ⟨(some 2), none, .alloc 67 [(.string ⟨#[]⟩), (.slice none 0 0)]⟩,
   ⟨none, none, .store 67 (tm 2) (tm 13) 2⟩])
 (.seq
 (.ops [⟨(some 14), none, .load 67 (tm 1) (some 2)⟩,
   ⟨(some 15), none, .load 67 (tm 2) (some 2)⟩,
   ⟨(some 16), none, .bslice 22 2 [(0, (tm 14)), (1, (tm 15))] 67 2 [(.string ⟨#[]⟩), (.slice none 0 0)]⟩,
   ⟨(some 17), none, .build 55 [(1, (.const (.string ⟨#[107, 101]⟩)))] [(.int .i64 0), (.string ⟨#[]⟩)] [(1, 1, (.const (.string ⟨#[107, 101]⟩)))]⟩,
   ⟨(some 18), none, .build 55 [(0, (kc 1)), (1, (.const (.string ⟨#[107, 121]⟩)))] [(.int .i64 0), (.string ⟨#[]⟩)] [(0, 1, (kc 1)), (1, 1, (.const (.string ⟨#[107, 121]⟩)))]⟩,
   ⟨(some 19), none, .build 55 [(1, (.const (.string ⟨#[104, 107, 97]⟩)))] [(.int .i64 0), (.string ⟨#[]⟩)] [(1, 1, (.const (.string ⟨#[104, 107, 97]⟩)))]⟩,
   ⟨(some 20), none, .build 55 [(0, (kc 1)), (1, (.const (.string ⟨#[107, 110]⟩)))] [(.int .i64 0), (.string ⟨#[]⟩)] [(0, 1, (kc 1)), (1, 1, (.const (.string ⟨#[107, 110]⟩)))]⟩,
   ⟨(some 21), none, .bslice 23 4 [(0, (tm 17)), (1, (tm 18)), (2, (tm 19)), (3, (tm 20))] 55 2 [(.int .i64 0), (.string ⟨#[]⟩)]⟩,
   ⟨(some 22), none, .build 25 [(0, (kc 3)), (1, (tm 16)), (2, (tm 21))] [(.int .i64 0), (.slice none 0 0), (.slice none 0 0)] [(0, 1, (kc 3)), (1, 1, (tm 16)), (2, 1, (tm 21))]⟩,
   ⟨none, none, .store 25 (tm 0) (tm 22) 3⟩])
 .ret))))
theorem fn37 : FnOK Try.prog 37 23 [.cell 0 25] L37 := ⟨Try.f37, Try.func37, by kernel_rfl, Try.ntmps37, by rw [Try.results37], by kernel_rfl⟩
def L40 : LCode :=
 (.seq
 (.ops [⟨(some 4), none, .mov (.const (.bool false))⟩])
 (.seq
 (.seq
 (.ops [⟨(some 5), none, .mov (tm 0)⟩,
   ⟨(some 6), none, .len false 32 3 (tm 5)⟩,
   ⟨(some 7), none, .mov (tm 1)⟩,
   ⟨(some 8), none, .len false 32 3 (tm 7)⟩,
   ⟨(some 9), none, .bin .neq 3 (tm 6) (tm 8)⟩])
 (.ite (tm 9)
  (.seq
  (.ops [⟨(some 10), none, .mov (tm 0)⟩,
    ⟨(some 11), none, .len false 32 3 (tm 10)⟩,
    ⟨(some 12), none, .mov (tm 1)⟩,
    ⟨(some 13), none, .len false 32 3 (tm 12)⟩,
    ⟨(some 14), none, .bin .lss 3 (tm 11) (tm 13)⟩,
    ⟨(some 4), none, .mov (tm 14)⟩])
  .ret)
  .skip))
 (.seq
 (.ops [⟨(some 15), none, .mov (tm 0)⟩,
   ⟨(some 16), none, .mov (tm 1)⟩,
   ⟨(some 17), none, .call 67 [(tm 15), (tm 16)] 4⟩,
   ⟨(some 4), none, .mov (tm 17)⟩])
 .ret)))
theorem fn40 : FnOK Try.prog 40 18 [.tmp 4] L40 := ⟨Try.f40, Try.func40, by kernel_rfl, Try.ntmps40, by rw [Try.results40], by kernel_rfl⟩
def L41 : LCode :=
 (.seq
 (.ops [⟨(some 4), none, .mov (.const (.bool false))⟩])
 (.seq
 (.seq
 (.ops [⟨(some 5), none, .mov (kc 0)⟩])
 (.block 0
  (.loop
   (.seq
   (.seq
   (.ops [⟨(some 6), none, .mov (tm 5)⟩,
     ⟨(some 7), none, .mov (tm 1)⟩,
     ⟨(some 8), none, .bin .lss 3 (tm 6) (tm 7)⟩])
   (.ite (tm 8)
    .skip
    (.exit 0)))
   (.seq
   (.block 1
    (.ops [⟨(some 11), none, .mov (tm 0)⟩,
      ⟨(some 12), none, .bin .quo 3 (tm 11) (kc 2)⟩,
      ⟨(some 0), none, .mov (tm 12)⟩]))
   (.ops [⟨(some 9), none, .mov (tm 5)⟩,
     ⟨(some 10), none, .bin .add 3 (tm 9) (kc 1)⟩,
     ⟨(some 5), none, .mov (tm 10)⟩]))))))
 (.seq
 (.ops [⟨(some 13), none, .mov (tm 0)⟩,
   ⟨(some 14), none, .bin .rem 3 (tm 13) (kc 2)⟩,
   ⟨(some 15), none, .bin .eql 3 (tm 14) (kc 1)⟩,
   ⟨(some 4), none, .mov (tm 15)⟩])
 .ret)))
theorem fn41 : FnOK Try.prog 41 16 [.tmp 4] L41 := ⟨Try.f41, Try.func41, by kernel_rfl, Try.ntmps41, by rw [Try.results41], by kernel_rfl⟩
def L42 : LCode :=
 (.seq
 (.ops [⟨(some 4), none, .mov (.const (.bool false))⟩])
 (.seq
 (.ops [⟨(some 5), none, .mov (kc (-1))⟩])
 (.seq
 (.seq
 (.ops [⟨(some 6), none, .mov (kc 0)⟩])
 (.block 0
  (.loop
   (.seq
   (.seq
   (.ops [⟨(some 7), none, .mov (tm 6)⟩,
     ⟨(some 8), none, .mov (tm 0)⟩,
     ⟨(some 9), none, .len false 32 3 (tm 8)⟩,
     ⟨(some 10), none, .bin .lss 3 (tm 7) (tm 9)⟩])
   (.ite (tm 10)
    .skip
    (.exit 0)))
   (.seq
   (.block 1
    (.seq
    (.seq
    (.ops [⟨(some 13), none, .mov (tm 0)⟩,
      ⟨(some 14), none, .mov (tm 6)⟩,
      ⟨(some 15), none, .iaddr 32 (tm 13) (tm 14) 1⟩,
      ⟨(some 16), none, .load 3 (tm 15) none⟩,
      ⟨(some 17), none, .mov (tm 5)⟩,
      ⟨(some 18), none, .bin .leq 3 (tm 16) (tm 17)⟩,
      ⟨(some 19), none, .mov (tm 18)⟩,
      ⟨(some 20), some (19, false), .mov (tm 0)⟩,
      ⟨(some 21), some (19, false), .mov (tm 6)⟩,
      ⟨(some 22), some (19, false), .iaddr 32 (tm 20) (tm 21) 1⟩,
      ⟨(some 23), some (19, false), .load 3 (tm 22) none⟩,
      ⟨(some 24), some (19, false), .mov (tm 1)⟩,
      ⟨(some 25), some (19, false), .bin .geq 3 (tm 23) (tm 24)⟩,
      ⟨(some 26), none, .pick (tm 19) (.const (.bool true)) (tm 25)⟩])
    (.ite (tm 26)
     (.seq
     (.ops [⟨(some 4), none, .mov (.const (.bool false))⟩])
     .ret)
     .skip))
    (.ops [⟨(some 27), none, .mov (tm 0)⟩,
      ⟨(some 28), none, .mov (tm 6)⟩,
      ⟨(some 29), none, .iaddr 32 (tm 27) (tm 28) 1⟩,
      ⟨(some 30), none, .load 3 (tm 29) none⟩,
      ⟨(some 5), none, .mov (tm 30)⟩])))
   (.ops [⟨(some 11), none, .mov (tm 6)⟩,
     ⟨(some 12), none, .bin .add 3 (tm 11) (kc 1)⟩,
     ⟨(some 6), none, .mov (tm 12)⟩]))))))
 (.seq
 (.ops [⟨(some 4), none, .mov (.const (.bool true))⟩])
 .ret))))
theorem fn42 : FnOK Try.prog 42 31 [.tmp 4] L42 := ⟨Try.f42, Try.func42, by kernel_rfl, Try.ntmps42, by rw [Try.results42], by kernel_rfl⟩
def L43 : LCode :=
 (.seq
 (.ops [⟨(some 2), none, .box 25 (tm 0)⟩,
   ⟨(some 4), none, .mov (.const (.slice none 0 0))⟩])
 (.seq
 (.ops [⟨(some 5), none, .mov (.const (.slice none 0 0))⟩])
 (.seq
 (.seq
 (.ops [⟨(some 6), none, .mov (kc 0)⟩])
 (.block 0
  (.loop
   (.seq
   (.seq
   (.ops [⟨(some 7), none, .mov (tm 6)⟩,
     ⟨(some 8), none, .faddr 25 (tm 2) 2 2⟩,
     ⟨(some 9), none, .load 23 (tm 8) none⟩,
     ⟨(some 10), none, .len false 23 3 (tm 9)⟩,
     ⟨(some 11), none, .bin .lss 3 (tm 7) (tm 10)⟩])
   (.ite (tm 11)
    .skip
    (.exit 0)))
   (.seq
   (.block 1
    (.seq
    (.ops [⟨(some 14), none, .mov (tm 1)⟩,
      ⟨(some 15), none, .mov (tm 6)⟩,
      ⟨(some 16), none, .call 81 [(tm 14), (tm 15)] 4⟩,
      ⟨(some 17), none, .un .not (tm 16)⟩])
    (.ite (tm 17)
     (.ops [⟨(some 18), none, .mov (tm 5)⟩,
       ⟨(some 19), none, .mov (tm 6)⟩,
       ⟨(some 20), none, .bslice 32 1 [(0, (tm 19))] 3 1 [(.int .i64 0)]⟩,
       ⟨(some 21), none, .append 32 32 (tm 18) (tm 20) 3 1 8 [(.int .i64 0)]⟩,
       ⟨(some 5), none, .mov (tm 21)⟩])
     .skip)))
   (.ops [⟨(some 12), none, .mov (tm 6)⟩,
     ⟨(some 13), none, .bin .add 3 (tm 12) (kc 1)⟩,
     ⟨(some 6), none, .mov (tm 13)⟩]))))))
 (.seq
 (.ops [⟨(some 22), none, .mov (tm 5)⟩,
   ⟨(some 4), none, .mov (tm 22)⟩])
 .ret))))
theorem fn43 : FnOK Try.prog 43 23 [.tmp 4] L43 := ⟨Try.f43, Try.func43, by kernel_rfl, Try.ntmps43, by rw [Try.results43], by kernel_rfl⟩
def L44 : LCode :=
 (.seq
 (.ops [⟨(some 3), none, .box 3 (tm 0)⟩,
   ⟨(some 4), none, .box 3 (tm 1)⟩,
   ⟨(some 6), none, .mov (.const (.bool false))⟩])
 (.seq
 (.ops [⟨(some 7), none, .mov (tm 2)⟩,
   ⟨(some 8), none, .mkfn (.func 85) [] [(tm 3), (tm 4)]⟩,
   ⟨(some 9), none, .call 84 [(tm 7), (tm 8)] 4⟩,
   ⟨(some 6), none, .mov (tm 9)⟩])
 .ret))
theorem fn44 : FnOK Try.prog 44 10 [.tmp 6] L44 := ⟨Try.f44, Try.func44, by kernel_rfl, Try.ntmps44, by rw [Try.results44], by kernel_rfl⟩
def L45 : LCode :=
 (.seq
 (.ops [⟨(some 4), none, .mov (kc 0)⟩,
   ⟨(some 5), none, .mov (kc 0)⟩])
 (.seq
 (.seq
 (.ops [⟨(some 9), none, .mov (tm 0)⟩,
   ⟨(some 10), none, .len false 22 3 (tm 9)⟩,
   ⟨(some 11), none, .mov (kc 0)⟩])
 (.block 0
  (.loop
   (.seq
   (.ops [⟨(some 12), none, .bin .lss 3 (tm 11) (tm 10)⟩])
   (.seq
   (.ite (tm 12)
    .skip
    (.exit 0))
   (.seq
   (.block 1
    (.seq
    (.ops [⟨(some 13), none, .mov (tm 11)⟩,
      ⟨(some 14), none, .iaddr 22 (tm 9) (tm 11) 2⟩,
      ⟨(some 15), none, .load 67 (tm 14) (some 2)⟩,
      ⟨(some 7), none, .alloc 67 [(.string ⟨#[]⟩), (.slice none 0 0)]⟩,
      ⟨(some 6), none, .mov (tm 13)⟩,
      ⟨none, none, .store 67 (tm 7) (tm 15) 2⟩])
    (.seq
    (.ops [⟨(some 16), none, .mov (tm 1)⟩,
      ⟨(some 17), none, .mov (tm 6)⟩,
      ⟨(some 18), none, .load 67 (tm 7) (some 2)⟩,
      ⟨(some 19), none, .callv (tm 16) [(tm 17), (tm 18)] 26⟩,
      ⟨(some 8), none, .mov (tm 19)⟩])
    (.seq
    (.ops [⟨(some 20), none, .mov (tm 8)⟩,
      ⟨(some 21), none, .bin .neq 26 (tm 20) (kc 0)⟩])
    (.ite (tm 21)
     (.seq
     (.ops [⟨(some 22), none, .mov (tm 6)⟩,
       ⟨(some 23), none, .mov (tm 8)⟩,
       ⟨(some 4), none, .mov (tm 22)⟩,
       ⟨(some 5), none, .mov (tm 23)⟩])
     .ret)
     .skip)))))
   (.ops [⟨(some 24), none, .bin .add 3 (tm 11) (kc 1)⟩,
     ⟨(some 11), none, .mov (tm 24)⟩])))))))
 (.seq
 (.ops [⟨(some 4), none, .mov (kc 0)⟩,
   ⟨(some 5), none, .mov (kc 0)⟩])
 .ret)))
theorem fn45 : FnOK Try.prog 45 25 [.tmp 4, .tmp 5] L45 := ⟨Try.f45, Try.func45, by kernel_rfl, Try.ntmps45, by rw [Try.results45], by kernel_rfl⟩
def L46 : LCode :=
 (.seq
 (.ops [⟨(some 4), none, .box 67 (tm 1)⟩,
   ⟨(some 5), none, .mov (kc 0)⟩])
 (.seq
 (.block 0
  (.seq
  (.ops [⟨(some 9), none, .faddr 67 (tm 4) 0 0⟩,
    ⟨(some 10), none, .load 9 (tm 9) none⟩,
    ⟨(some 11), none, .call 19 [(tm 10)] 4⟩,
    ⟨(some 12), none, .un .not (tm 11)⟩,
    ⟨(some 8), none, .mov (tm 12)⟩])
  (.ite (tm 8)
   (.seq
   (.ops [⟨(some 5), none, .mov (kc 6)⟩])
   .ret)
   (.seq
   (.ops [⟨(some 14), none, .faddr 25 (tm 2) 1 1⟩,
     ⟨(some 15), none, .load 22 (tm 14) none⟩,
     ⟨(some 16), none, .mov (tm 0)⟩,
     ⟨(some 17), none, .sliceE 22 (tm 15) none (some (tm 16)) none 2⟩,
     ⟨(some 18), none, .mkfn (.func 48) [] [(tm 4)]⟩,
     ⟨(some 19), none, .call 47 [(tm 17), (tm 18)] 4⟩,
     ⟨(some 13), none, .mov (tm 19)⟩])
   (.ite (tm 13)
    (.seq
    (.ops [⟨(some 5), none, .mov (kc 5)⟩])
    .ret)
    (.seq
    (.ops [⟨(some 21), none, .faddr 67 (tm 4) 1 1⟩,
      ⟨(some 22), none, .load 65 (tm 21) none⟩,
      ⟨(some 23), none, .len false 65 3 (tm 22)⟩,
      ⟨(some 24), none, .bslice 32 1 [(0, (tm 23))] 3 1 [(.int .i64 0)]⟩,
      ⟨(some 25), none, .call 44 [(kc 1), (kc 6), (tm 24)] 4⟩,
      ⟨(some 20), none, .mov (tm 25)⟩])
    (.ite (tm 20)
     (.seq
     (.ops [⟨(some 5), none, .mov (kc 3)⟩])
     .ret)
     .skip)))))))
 (.seq
 (.ops [⟨(some 27), none, .faddr 67 (tm 4) 1 1⟩,
   ⟨(some 28), none, .load 65 (tm 27) none⟩,
   ⟨(some 29), none, .mkfn (.func 50) [] [(tm 2), (tm 4)]⟩,
   ⟨(some 30), none, .call 49 [(tm 28), (tm 29)] 33⟩,
   ⟨(some 26), none, .mov (tm 30)⟩,
   ⟨(some 31), none, .extract (tm 26) 0⟩,
   ⟨(some 32), none, .extract (tm 26) 1⟩,
   ⟨(some 6), none, .mov (tm 31)⟩,
   ⟨(some 7), none, .mov (tm 32)⟩])
 (.seq
 (.ops [⟨(some 33), none, .mov (tm 7)⟩,
   ⟨(some 5), none, .mov (tm 33)⟩])
 .ret))))
theorem fn46 : FnOK Try.prog 46 34 [.tmp 5] L46 := ⟨Try.f46, Try.func46, by kernel_rfl, Try.ntmps46, by rw [Try.results46], by kernel_rfl⟩
def L47 : LCode :=
 (.seq
 (.ops [⟨(some 4), none, .mov (.const (.bool false))⟩])
 (.seq
 (.ops [⟨(some 5), none, .mov (tm 0)⟩,
   ⟨(some 6), none, .mov (tm 1)⟩,
   ⟨(some 7), none, .call 86 [(tm 5), (tm 6)] 3⟩,
   ⟨(some 8), none, .bin .geq 3 (tm 7) (kc 0)⟩,
   ⟨(some 4), none, .mov (tm 8)⟩])
 .ret))
theorem fn47 : FnOK Try.prog 47 9 [.tmp 4] L47 := ⟨Try.f47, Try.func47, by kernel_rfl, Try.ntmps47, by rw [Try.results47], by kernel_rfl⟩
def L48 : LCode :=
 (.seq
 (.ops [⟨(some 2), none, .box 67 (tm 0)⟩,
   ⟨(some 3), none, .mov (.const (.bool false))⟩])
 (.seq
 (.ops [⟨(some 4), none, .faddr 67 (tm 2) 0 0⟩,
   ⟨(some 5), none, .load 9 (tm 4) none⟩,
   ⟨(some 6), none, .faddr 67 (tm 1) 0 0⟩,
   ⟨(some 7), none, .load 9 (tm 6) none⟩,
   ⟨(some 8), none, .bin .eql 9 (tm 5) (tm 7)⟩,
   ⟨(some 3), none, .mov (tm 8)⟩])
 .ret))
theorem fn48 : FnOK Try.prog 48 9 [.tmp 3] L48 := ⟨Try.f48, Try.func48, by kernel_rfl, Try.ntmps48, by rw [Try.results48], by kernel_rfl⟩
def L49 : LCode :=
 (.seq
 (.ops [⟨(some 4), none, .mov (kc 0)⟩,
   ⟨(some 5), none, .mov (kc 0)⟩])
 (.seq
 (.seq
 (.ops [⟨(some 9), none, .mov (tm 0)⟩,
   ⟨(some 10), none, .len false 65 3 (tm 9)⟩,
   ⟨(some 11), none, .mov (kc 0)⟩])
 (.block 0
  (.loop
   (.seq
   (.ops [⟨(some 12), none, .bin .lss 3 (tm 11) (tm 10)⟩])
   (.seq
   (.ite (tm 12)
    .skip
    (.exit 0))
   (.seq
   (.block 1
    (.seq
    (.ops [⟨(some 13), none, .mov (tm 11)⟩,
      ⟨(some 14), none, .iaddr 65 (tm 9) (tm 11) 3⟩,
      ⟨(some 15), none, .load 69 (tm 14) (some 3)⟩,
      ⟨(some 7), none, .alloc 69 [(.int .u8 0), (.int .i64 0), (.bool false)]⟩,
      ⟨(some 6), none, .mov (tm 13)⟩,
      ⟨none, none, .store 69 (tm 7) (tm 15) 3⟩])
    (.seq
    (.ops [⟨(some 16), none, .mov (tm 1)⟩,
      ⟨(some 17), none, .mov (tm 6)⟩,
      ⟨(some 18), none, .load 69 (tm 7) (some 3)⟩,
      ⟨(some 19), none, .callv (tm 16) [(tm 17), (tm 18)] 26⟩,
      ⟨(some 8), none, .mov (tm 19)⟩])
    (.seq
    (.ops [⟨(some 20), none, .mov (tm 8)⟩,
      ⟨(some 21), none, .bin .neq 26 (tm 20) (kc 0)⟩])
    (.ite (tm 21)
     (.seq
     (.ops [⟨(some 22), none, .mov (tm 6)⟩,
       ⟨(some 23), none, .mov (tm 8)⟩,
       ⟨(some 4), none, .mov (tm 22)⟩,
       ⟨(some 5), none, .mov (tm 23)⟩])
     .ret)
     .skip)))))
   (.ops [⟨(some 24), none, .bin .add 3 (tm 11) (kc 1)⟩,
     ⟨(some 11), none, .mov (tm 24)⟩])))))))
 (.seq
 (.ops [⟨(some 4), none, .mov (kc 0)⟩,
   ⟨(some 5), none, .mov (kc 0)⟩])
 .ret)))
theorem fn49 : FnOK Try.prog 49 25 [.tmp 4, .tmp 5] L49 := ⟨Try.f49, Try.func49, by kernel_rfl, Try.ntmps49, by rw [Try.results49], by kernel_rfl⟩
def L50 : LCode :=
 (.seq
 (.ops [⟨(some 5), none, .box 69 (tm 1)⟩,
   ⟨(some 6), none, .mov (kc 0)⟩])
 (.seq
 (.seq
 (.ops [⟨(some 9), none, .faddr 25 (tm 2) 0 0⟩,
   ⟨(some 10), none, .load 3 (tm 9) none⟩,
   ⟨(some 11), none, .call 51 [(tm 10)] 79⟩,
   ⟨(some 12), none, .len false 79 3 (tm 11)⟩,
   ⟨(some 13), none, .mov (kc 0)⟩])
 (.block 0
  (.loop
   (.seq
   (.ops [⟨(some 14), none, .bin .lss 3 (tm 13) (tm 12)⟩])
   (.seq
   (.ite (tm 14)
    .skip
    (.exit 0))
   (.seq
   (.block 1
    (.seq
    (.ops [⟨(some 15), none, .iaddr 79 (tm 11) (tm 13) 2⟩,
      ⟨(some 16), none, .load 83 (tm 15) (some 2)⟩,
      ⟨(some 8), none, .alloc 83 [(.int .i64 0), .nilFunc]⟩,
      ⟨none, none, .store 83 (tm 8) (tm 16) 2⟩])
    (.seq
    (.ops [⟨(some 17), none, .faddr 83 (tm 8) 1 1⟩,
      ⟨(some 18), none, .load 81 (tm 17) none⟩,
      ⟨(some 19), none, .faddr 67 (tm 3) 1 1⟩,
      ⟨(some 20), none, .load 65 (tm 19) none⟩,
      ⟨(some 21), none, .mov (tm 0)⟩,
      ⟨(some 22), none, .callv (tm 18) [(tm 20), (tm 21)] 4⟩])
    (.ite (tm 22)
     (.seq
     (.ops [⟨(some 23), none, .faddr 83 (tm 8) 0 0⟩,
       ⟨(some 24), none, .load 26 (tm 23) none⟩,
       ⟨(some 6), none, .mov (tm 24)⟩])
     .ret)
     .skip))))
   (.ops [⟨(some 25), none, .bin .add 3 (tm 13) (kc 1)⟩,
     ⟨(some 13), none, .mov (tm 25)⟩])))))))
 (.seq
 (.ops [⟨(some 6), none, .mov (kc 0)⟩])
 .ret)))
theorem fn50 : FnOK Try.prog 50 26 [.tmp 6] L50 := ⟨Try.f50, Try.func50, by kernel_rfl, Try.ntmps50, by rw [Try.results50], by kernel_rfl⟩
def L51 : LCode :=
 (.seq
 (.ops [⟨(some 1), none, .box 3 (tm 0)⟩,
   ⟨(some 2), none, .mov (.const (.slice none 0 0))⟩])
 (.seq
 (.ops [⟨(some 3), none, .build 83 [(0, (kc 6)), (1, (.func 87))] [(.int .i64 0), .nilFunc] [(0, 1, (kc 6)), (1, 1, (.func 87))]⟩,
   ⟨(some 4), none, .build 83 [(0, (kc 5)), (1, (.func 88))] [(.int .i64 0), .nilFunc] [(0, 1, (kc 5)), (1, 1, (.func 88))]⟩,
   ⟨(some 5), none, .mkfn (.func 89) [] [(tm 1)]⟩,
   ⟨(some 6), none, .build 83 [(0, (kc 7)), (1, (tm 5))] [(.int .i64 0), .nilFunc] [(0, 1, (kc 7)), (1, 1, (tm 5))]⟩,
   ⟨(some 7), none, .build 83 [(0, (kc 2)), (1, (.func 90))] [(.int .i64 0), .nilFunc] [(0, 1, (kc 2)), (1, 1, (.func 90))]⟩,
   ⟨(some 8), none, .bslice 79 4 [(0, (tm 3)), (1, (tm 4)), (2, (tm 6)), (3, (tm 7))] 83 2 [(.int .i64 0), .nilFunc]⟩,
   ⟨(some 2), none, .mov (tm 8)⟩])
 .ret))
theorem fn51 : FnOK Try.prog 51 9 [.tmp 2] L51 := ⟨Try.f51, Try.func51, by kernel_rfl, Try.ntmps51, by rw [Try.results51], by kernel_rfl⟩
def L52 : LCode :=
 (.seq
 (.ops [⟨(some 4), none, .mov (kc 0)⟩,
   ⟨(some 5), none, .mov (kc 0)⟩])
 (.seq
 (.seq
 (.ops [⟨(some 9), none, .mov (tm 0)⟩,
   ⟨(some 10), none, .len false 23 3 (tm 9)⟩,
   ⟨(some 11), none, .mov (kc 0)⟩])
 (.block 0
  (.loop
   (.seq
   (.ops [⟨(some 12), none, .bin .lss 3 (tm 11) (tm 10)⟩])
   (.seq
   (.ite (tm 12)
    .skip
    (.exit 0))
   (.seq
   (.block 1
    (.seq
    (.ops [⟨(some 13), none, .mov (tm 11)⟩,
      ⟨(some 14), none, .iaddr 23 (tm 9) (tm 11) 2⟩,
      ⟨(some 15), none, .load 55 (tm 14) (some 2)⟩,
      ⟨(some 7), none, .alloc 55 [(.int .i64 0), (.string ⟨#[]⟩)]⟩,
      ⟨(some 6), none, .mov (tm 13)⟩,
      ⟨none, none, .store 55 (tm 7) (tm 15) 2⟩])
    (.seq
    (.ops [⟨(some 16), none, .mov (tm 1)⟩,
      ⟨(some 17), none, .mov (tm 6)⟩,
      ⟨(some 18), none, .load 55 (tm 7) (some 2)⟩,
      ⟨(some 19), none, .callv (tm 16) [(tm 17), (tm 18)] 26⟩,
      ⟨(some 8), none, .mov (tm 19)⟩])
    (.seq
    (.ops [⟨(some 20), none, .mov (tm 8)⟩,
      ⟨(some 21), none, .bin .neq 26 (tm 20) (kc 0)⟩])
    (.ite (tm 21)
     (.seq
     (.ops [⟨(some 22), none, .mov (tm 6)⟩,
       ⟨(some 23), none, .mov (tm 8)⟩,
       ⟨(some 4), none, .mov (tm 22)⟩,
       ⟨(some 5), none, .mov (tm 23)⟩])
     .ret)
     .skip)))))
   (.ops [⟨(some 24), none, .bin .add 3 (tm 11) (kc 1)⟩,
     ⟨(some 11), none, .mov (tm 24)⟩])))))))
 (.seq
 (.ops [⟨(some 4), none, .mov (kc 0)⟩,
   ⟨(some 5), none, .mov (kc 0)⟩])
 .ret)))
theorem fn52 : FnOK Try.prog 52 25 [.tmp 4, .tmp 5] L52 := ⟨Try.f52, Try.func52, by kernel_rfl, Try.ntmps52, by rw [Try.results52], by kernel_rfl⟩
def L53 : LCode :=
 (.seq
 (.ops [⟨(some 4), none, .box 55 (tm 1)⟩,
   ⟨(some 5), none, .mov (kc 0)⟩])
 (.seq
 (.block 0
  (.seq
  (.ops [⟨(some 8), none, .faddr 25 (tm 2) 1 1⟩,
    ⟨(some 9), none, .load 22 (tm 8) none⟩,
    ⟨(some 10), none, .len false 22 3 (tm 9)⟩,
    ⟨(some 11), none, .bin .sub 3 (tm 10) (kc 1)⟩,
    ⟨(some 12), none, .faddr 55 (tm 4) 0 0⟩,
    ⟨(some 13), none, .load 3 (tm 12) none⟩,
    ⟨(some 14), none, .bslice 32 1 [(0, (tm 13))] 3 1 [(.int .i64 0)]⟩,
    ⟨(some 15), none, .call 44 [(kc 0), (tm 11), (tm 14)] 4⟩,
    ⟨(some 7), none, .mov (tm 15)⟩])
  (.ite (tm 7)
   (.seq
   (.ops [⟨(some 5), none, .mov (kc 4)⟩])
   .ret)
   (.seq
   (.ops [⟨(some 17), none, .faddr 55 (tm 4) 1 1⟩,
     ⟨(some 18), none, .load 9 (tm 17) none⟩,
     ⟨(some 19), none, .len true 9 3 (tm 18)⟩,
     ⟨(some 20), none, .bslice 32 1 [(0, (tm 19))] 3 1 [(.int .i64 0)]⟩,
     ⟨(some 21), none, .call 44 [(kc 1), (kc 5), (tm 20)] 4⟩,
     ⟨(some 16), none, .mov (tm 21)⟩])
   (.ite (tm 16)
    (.seq
    (.ops [⟨(some 5), none, .mov (kc 3)⟩])
    .ret)
    .skip)))))
 (.seq
 (.seq
 (.ops [⟨(some 22), none, .faddr 55 (tm 4) 1 1⟩,
   ⟨(some 23), none, .load 9 (tm 22) none⟩,
   ⟨(some 24), none, .len true 9 3 (tm 23)⟩,
   ⟨(some 25), none, .mov (kc 0)⟩])
 (.block 1
  (.loop
   (.seq
   (.ops [⟨(some 26), none, .bin .lss 3 (tm 25) (tm 24)⟩])
   (.seq
   (.ite (tm 26)
    .skip
    (.exit 1))
   (.seq
   (.block 2
    (.seq
    (.ops [⟨(some 27), none, .mov (tm 25)⟩,
      ⟨(some 6), none, .mov (tm 27)⟩])
    (.seq
    (.dops [(⟨(some 28), none, .faddr 25 (tm 2) 1 1⟩, []),
      (⟨(some 29), none, .load 22 (tm 28) none⟩, [0]),
      (⟨(some 30), none, .faddr 55 (tm 4) 0 0⟩, []),
      (⟨(some 31), none, .load 3 (tm 30) none⟩, [2]),
      (⟨(some 32), none, .iaddr 22 (tm 29) (tm 31) 2⟩, [1, 3]),
      (⟨(some 33), none, .faddr 67 (tm 32) 1 1⟩, [4]),
      (⟨(some 34), none, .load 65 (tm 33) none⟩, [5]),
      (⟨(some 35), none, .faddr 55 (tm 4) 1 1⟩, []),
      (⟨(some 36), none, .load 9 (tm 35) none⟩, [7]),
      (⟨(some 37), none, .mov (tm 6)⟩, []),
      (⟨(some 38), none, .indexS 9 (tm 36) (tm 37)⟩, [8, 9]),
      (⟨(some 39), none, .call 54 [(tm 34), (tm 38)] 3⟩, [6, 10]),
      (⟨(some 40), none, .bin .lss 3 (tm 39) (kc 0)⟩, [11])])
    (.ite (tm 40)
     (.seq
     (.ops [⟨(some 5), none, .mov (kc 6)⟩])
     .ret)
     .skip))))
   (.ops [⟨(some 41), none, .bin .add 3 (tm 25) (kc 1)⟩,
     ⟨(some 25), none, .mov (tm 41)⟩])))))))
 (.seq
 (.ops [⟨(some 5), none, .mov (kc 0)⟩])
 .ret))))
theorem fn53 : FnOK Try.prog 53 42 [.tmp 5] L53 := ⟨Try.f53, Try.func53, by kernel_rfl, Try.ntmps53, by rw [Try.results53], by kernel_rfl⟩
def L54 : LCode :=
 (.seq
 (.ops [⟨(some 3), none, .box 5 (tm 1)⟩,
   ⟨(some 4), none, .mov (kc 0)⟩])
 (.seq
 (.ops [⟨(some 5), none, .mov (tm 0)⟩,
   ⟨(some 6), none, .mkfn (.func 92) [] [(tm 3)]⟩,
   ⟨(some 7), none, .call 91 [(tm 5), (tm 6)] 3⟩,
   ⟨(some 4), none, .mov (tm 7)⟩])
 .ret))
theorem fn54 : FnOK Try.prog 54 8 [.tmp 4] L54 := ⟨Try.f54, Try.func54, by kernel_rfl, Try.ntmps54, by rw [Try.results54], by kernel_rfl⟩
def L55 : LCode :=
 (.seq
 (.ops [⟨(some 6), none, .mov (.const (.bool false))⟩])
 (.seq
 (.ops [⟨(some 7), none, .mov (tm 0)⟩,
   ⟨(some 8), none, .mov (tm 1)⟩,
   ⟨(some 9), none, .bin .geq 3 (tm 7) (tm 8)⟩,
   ⟨(some 10), none, .mov (tm 9)⟩,
   ⟨(some 11), some (10, true), .mov (tm 0)⟩,
   ⟨(some 12), some (10, true), .mov (tm 2)⟩,
   ⟨(some 13), some (10, true), .bin .leq 3 (tm 11) (tm 12)⟩,
   ⟨(some 14), none, .pick (tm 10) (tm 13) (.const (.bool false))⟩,
   ⟨(some 6), none, .mov (tm 14)⟩])
 .ret))
theorem fn55 : FnOK Try.prog 55 15 [.tmp 6] L55 := ⟨Try.f55, Try.func55, by kernel_rfl, Try.ntmps55, by rw [Try.results55], by kernel_rfl⟩
def L56 : LCode :=
 (.seq
 (.ops [⟨(some 4), none, .mov (kc 0)⟩])
 (.seq
 (.ops [⟨(some 5), none, .mov (kc 0)⟩])
 (.seq
 (.seq
 (.ops [⟨(some 6), none, .mov (tm 1)⟩,
   ⟨(some 7), none, .mov (tm 0)⟩,
   ⟨(some 8), none, .call 93 [(tm 6), (tm 7)] 3⟩,
   ⟨(some 9), none, .bin .geq 3 (tm 8) (kc 0)⟩])
 (.ite (tm 9)
  (.ops [⟨(some 5), none, .mov (kc 5)⟩])
  .skip))
 (.seq
 (.seq
 (.ops [⟨(some 10), none, .mov (tm 0)⟩,
   ⟨(some 11), none, .call 20 [(tm 10)] 4⟩,
   ⟨(some 12), none, .un .not (tm 11)⟩])
 (.ite (tm 12)
  (.ops [⟨(some 5), none, .mov (kc 6)⟩])
  .skip))
 (.seq
 (.ops [⟨(some 13), none, .mov (tm 5)⟩,
   ⟨(some 4), none, .mov (tm 13)⟩])
 .ret)))))
theorem fn56 : FnOK Try.prog 56 14 [.tmp 4] L56 := ⟨Try.f56, Try.func56, by kernel_rfl, Try.ntmps56, by rw [Try.results56], by kernel_rfl⟩
def L57 : LCode :=
 (.seq
 (.ops [⟨(some 2), none, .box 25 (tm 0)⟩,
   ⟨(some 4), none, .mov (kc 0)⟩])
 (.seq
 (.seq
 (.ops [⟨(some 7), none, .mov (tm 1)⟩,
   ⟨(some 8), none, .len false 65 3 (tm 7)⟩,
   ⟨(some 9), none, .call 55 [(tm 8), (kc 1), (kc 6)] 4⟩,
   ⟨(some 10), none, .un .not (tm 9)⟩])
 (.ite (tm 10)
  (.seq
  (.ops [⟨(some 4), none, .mov (kc 3)⟩])
  .ret)
  .skip))
 (.seq
 (.seq
 (.ops [⟨(some 5), none, .mov (kc 0)⟩])
 (.block 0
  (.loop
   (.seq
   (.seq
   (.ops [⟨(some 11), none, .mov (tm 5)⟩,
     ⟨(some 12), none, .mov (tm 1)⟩,
     ⟨(some 13), none, .len false 65 3 (tm 12)⟩,
     ⟨(some 14), none, .bin .lss 3 (tm 11) (tm 13)⟩])
   (.ite (tm 14)
    .skip
    (.exit 0)))
   (.seq
   (.block 1
    (.seq
    (.seq
    (.ops [⟨(some 17), none, .mov (tm 1)⟩,
      ⟨(some 18), none, .mov (tm 5)⟩,
      ⟨(some 19), none, .iaddr 65 (tm 17) (tm 18) 3⟩,
      ⟨(some 20), none, .faddr 69 (tm 19) 0 0⟩,
      ⟨(some 21), none, .load 5 (tm 20) none⟩,
      ⟨(some 22), none, .toInt .i64 5 3 (tm 21)⟩,
      ⟨(some 23), none, .call 55 [(tm 22), (kc 97), (kc 122)] 4⟩,
      ⟨(some 24), none, .un .not (tm 23)⟩])
    (.ite (tm 24)
     (.seq
     (.ops [⟨(some 4), none, .mov (kc 6)⟩])
     .ret)
     .skip))
    (.seq
    (.seq
    (.ops [⟨(some 6), none, .mov (kc 0)⟩])
    (.block 2
     (.loop
      (.seq
      (.seq
      (.ops [⟨(some 25), none, .mov (tm 6)⟩,
        ⟨(some 26), none, .mov (tm 5)⟩,
        ⟨(some 27), none, .bin .lss 3 (tm 25) (tm 26)⟩])
      (.ite (tm 27)
       .skip
       (.exit 2)))
      (.seq
      (.block 3
       (.seq
       (.dops [(⟨(some 30), none, .mov (tm 1)⟩, []),
         (⟨(some 31), none, .mov (tm 6)⟩, []),
         (⟨(some 32), none, .iaddr 65 (tm 30) (tm 31) 3⟩, [0, 1]),
         (⟨(some 33), none, .faddr 69 (tm 32) 0 0⟩, [2]),
         (⟨(some 34), none, .load 5 (tm 33) none⟩, [3]),
         (⟨(some 35), none, .mov (tm 1)⟩, []),
         (⟨(some 36), none, .mov (tm 5)⟩, []),
         (⟨(some 37), none, .iaddr 65 (tm 35) (tm 36) 3⟩, [5, 6]),
         (⟨(some 38), none, .faddr 69 (tm 37) 0 0⟩, [7]),
         (⟨(some 39), none, .load 5 (tm 38) none⟩, [8]),
         (⟨(some 40), none, .bin .eql 5 (tm 34) (tm 39)⟩, [4, 9])])
       (.ite (tm 40)
        (.seq
        (.ops [⟨(some 4), none, .mov (kc 5)⟩])
        .ret)
        .skip)))
      (.ops [⟨(some 28), none, .mov (tm 6)⟩,
        ⟨(some 29), none, .bin .add 3 (tm 28) (kc 1)⟩,
        ⟨(some 6), none, .mov (tm 29)⟩]))))))
    (.seq
    (.seq
    (.dops [(⟨(some 41), none, .mov (tm 1)⟩, []),
      (⟨(some 42), none, .mov (tm 5)⟩, []),
      (⟨(some 43), none, .iaddr 65 (tm 41) (tm 42) 3⟩, [0, 1]),
      (⟨(some 44), none, .faddr 69 (tm 43) 1 1⟩, [2]),
      (⟨(some 45), none, .load 3 (tm 44) none⟩, [3]),
      (⟨(some 46), none, .faddr 25 (tm 2) 0 0⟩, []),
      (⟨(some 47), none, .load 3 (tm 46) none⟩, [5]),
      (⟨(some 48), none, .call 94 [(tm 47)] 3⟩, [6]),
      (⟨(some 49), none, .call 55 [(tm 45), (kc 0), (tm 48)] 4⟩, [4, 7, 7]),
      (⟨(some 50), none, .un .not (tm 49)⟩, [8])])
    (.ite (tm 50)
     (.seq
     (.ops [⟨(some 4), none, .mov (kc 7)⟩])
     .ret)
     .skip))
    (.seq
    (.ops [⟨(some 51), none, .mov (tm 1)⟩,
      ⟨(some 52), none, .mov (tm 5)⟩,
      ⟨(some 53), none, .iaddr 65 (tm 51) (tm 52) 3⟩,
      ⟨(some 54), none, .faddr 69 (tm 53) 1 1⟩,
      ⟨(some 55), none, .load 3 (tm 54) none⟩,
      ⟨(some 56), none, .bin .eql 3 (tm 55) (kc 0)⟩,
      ⟨(some 57), none, .mov (tm 56)⟩,
      ⟨(some 58), some (57, true), .mov (tm 1)⟩,
      ⟨(some 59), some (57, true), .mov (tm 5)⟩,
      ⟨(some 60), some (57, true), .iaddr 65 (tm 58) (tm 59) 3⟩,
      ⟨(some 61), some (57, true), .faddr 69 (tm 60) 2 2⟩,
      ⟨(some 62), some (57, true), .load 4 (tm 61) none⟩,
      ⟨(some 63), some (57, true), .un .not (tm 62)⟩,
      ⟨(some 64), none, .pick (tm 57) (tm 63) (.const (.bool false))⟩])
    (.ite (tm 64)
     (.seq
     (.ops [⟨(some 4), none, .mov (kc 2)⟩])
     .ret)
     .skip))))))
   (.ops [⟨(some 15), none, .mov (tm 5)⟩,
     ⟨(some 16), none, .bin .add 3 (tm 15) (kc 1)⟩,
     ⟨(some 5), none, .mov (tm 16)⟩]))))))
 (.seq
 (.ops [⟨(some 4), none, .mov (kc 0)⟩])
 .ret))))
theorem fn57 : FnOK Try.prog 57 65 [.tmp 4] L57 := ⟨Try.f57, Try.func57, by kernel_rfl, Try.ntmps57, by rw [Try.results57], by kernel_rfl⟩
def L58 : LCode :=
 (.seq
 (.ops [⟨(some 2), none, .box 25 (tm 0)⟩,
   ⟨(some 3), none, .box 55 (tm 1)⟩,
   ⟨(some 4), none, .mov (kc 0)⟩])
 (.seq
 (.seq
 (.ops [⟨(some 6), none, .faddr 55 (tm 3) 0 0⟩,
   ⟨(some 7), none, .load 3 (tm 6) none⟩,
   ⟨(some 8), none, .faddr 25 (tm 2) 1 1⟩,
   ⟨(some 9), none, .load 22 (tm 8) none⟩,
   ⟨(some 10), none, .len false 22 3 (tm 9)⟩,
   ⟨(some 11), none, .bin .sub 3 (tm 10) (kc 1)⟩,
   ⟨(some 12), none, .call 55 [(tm 7), (kc 0), (tm 11)] 4⟩,
   ⟨(some 13), none, .un .not (tm 12)⟩])
 (.ite (tm 13)
  (.seq
  (.ops [⟨(some 4), none, .mov (kc 4)⟩])
  .ret)
  .skip))
 (.seq
 (.seq
 (.ops [⟨(some 14), none, .faddr 55 (tm 3) 1 1⟩,
   ⟨(some 15), none, .load 9 (tm 14) none⟩,
   ⟨(some 16), none, .len true 9 3 (tm 15)⟩,
   ⟨(some 17), none, .call 55 [(tm 16), (kc 1), (kc 5)] 4⟩,
   ⟨(some 18), none, .un .not (tm 17)⟩])
 (.ite (tm 18)
  (.seq
  (.ops [⟨(some 4), none, .mov (kc 3)⟩])
  .ret)
  .skip))
 (.seq
 (.seq
 (.ops [⟨(some 5), none, .mov (kc 0)⟩])
 (.block 0
  (.loop
   (.seq
   (.seq
   (.ops [⟨(some 19), none, .mov (tm 5)⟩,
     ⟨(some 20), none, .faddr 55 (tm 3) 1 1⟩,
     ⟨(some 21), none, .load 9 (tm 20) none⟩,
     ⟨(some 22), none, .len true 9 3 (tm 21)⟩,
     ⟨(some 23), none, .bin .lss 3 (tm 19) (tm 22)⟩])
   (.ite (tm 23)
    .skip
    (.exit 0)))
   (.seq
   (.block 1
    (.seq
    (.dops [(⟨(some 26), none, .faddr 25 (tm 2) 1 1⟩, []),
      (⟨(some 27), none, .load 22 (tm 26) none⟩, [0]),
      (⟨(some 28), none, .faddr 55 (tm 3) 0 0⟩, []),
      (⟨(some 29), none, .load 3 (tm 28) none⟩, [2]),
      (⟨(some 30), none, .iaddr 22 (tm 27) (tm 29) 2⟩, [1, 3]),
      (⟨(some 31), none, .load 67 (tm 30) (some 2)⟩, [4]),
      (⟨(some 32), none, .faddr 55 (tm 3) 1 1⟩, []),
      (⟨(some 33), none, .load 9 (tm 32) none⟩, [6]),
      (⟨(some 34), none, .mov (tm 5)⟩, []),
      (⟨(some 35), none, .indexS 9 (tm 33) (tm 34)⟩, [7, 8]),
      (⟨(some 36), none, .call 95 [(tm 31), (tm 35)] 3⟩, [5, 9]),
      (⟨(some 37), none, .bin .lss 3 (tm 36) (kc 0)⟩, [10])])
    (.ite (tm 37)
     (.seq
     (.ops [⟨(some 4), none, .mov (kc 6)⟩])
     .ret)
     .skip)))
   (.ops [⟨(some 24), none, .mov (tm 5)⟩,
     ⟨(some 25), none, .bin .add 3 (tm 24) (kc 1)⟩,
     ⟨(some 5), none, .mov (tm 25)⟩]))))))
 (.seq
 (.ops [⟨(some 4), none, .mov (kc 0)⟩])
 .ret)))))
theorem fn58 : FnOK Try.prog 58 38 [.tmp 4] L58 := ⟨Try.f58, Try.func58, by kernel_rfl, Try.ntmps58, by rw [Try.results58], by kernel_rfl⟩
def L59 : LCode :=
 (.seq
 (.ops [⟨(some 3), none, .box 25 (tm 0)⟩,
   ⟨(some 6), none, .mov (.const (.pointer none))⟩,
   ⟨(some 7), none, .mov (kc 0)⟩])
 (.seq
 (.ops [⟨(some 12), none, .load 25 (tm 3) (some 3)⟩,
   ⟨(some 13), none, .call 17 [(tm 12)] 27⟩,
   ⟨(some 11), none, .mov (tm 13)⟩,
   ⟨(some 14), none, .extract (tm 11) 0⟩,
   ⟨(some 15), none, .extract (tm 11) 1⟩,
   ⟨(some 16), none, .extract (tm 11) 2⟩,
   ⟨(some 8), none, .mov (tm 14)⟩,
   ⟨(some 9), none, .mov (tm 15)⟩,
   ⟨(some 10), none, .mov (tm 16)⟩])
 (.seq
 (.block 0
  (.seq
  (.ops [⟨(some 18), none, .mov (tm 10)⟩,
    ⟨(some 19), none, .bin .neq 26 (tm 18) (kc 0)⟩,
    ⟨(some 17), none, .mov (tm 19)⟩])
  (.ite (tm 17)
   (.seq
   (.ops [⟨(some 20), none, .mov (tm 10)⟩,
     ⟨(some 6), none, .mov (.const (.pointer none))⟩,
     ⟨(some 7), none, .mov (tm 20)⟩])
   .ret)
   (.seq
   (.ops [⟨(some 22), none, .mov (tm 1)⟩,
     ⟨(some 23), none, .bin .sub 3 (tm 22) (kc 1)⟩,
     ⟨(some 24), none, .mov (tm 2)⟩,
     ⟨(some 25), none, .call 44 [(kc 0), (tm 23), (tm 24)] 4⟩,
     ⟨(some 21), none, .mov (tm 25)⟩])
   (.ite (tm 21)
    (.seq
    (.ops [⟨(some 6), none, .mov (.const (.pointer none))⟩,
      ⟨(some 7), none, .mov (kc 4)⟩])
    .ret)
    .skip)))))
 (.seq
 (.ops [⟨(some 26), none, .load 25 (tm 3) (some 3)⟩,
   ⟨(some 27), none, .call 96 [(tm 26)] 94⟩,
   ⟨(some 6), none, .mov (tm 27)⟩,
   ⟨(some 7), none, .mov (kc 0)⟩])
 .ret))))
theorem fn59 : FnOK Try.prog 59 28 [.tmp 6, .tmp 7] L59 := ⟨Try.f59, Try.func59, by kernel_rfl, Try.ntmps59, by rw [Try.results59], by kernel_rfl⟩
def L60 : LCode :=
 (.seq
 (.ops [⟨(some 4), none, .alloc 99 [(.int .i64 0), (.int .i64 0), (.int .i64 0), (.int .i64 0), (.int .i64 0), (.int .i64 0)]⟩,
   ⟨(some 5), none, .mov (kc 0)⟩])
 (.seq
 (.seq
 (.ops [⟨(some 8), none, .mov (tm 0)⟩,
   ⟨(some 9), none, .nilck (tm 8)⟩,
   ⟨(some 10), none, .faddr 112 (tm 9) 1 3⟩,
   ⟨(some 11), none, .load 110 (tm 10) none⟩,
   ⟨(some 12), none, .range 110 (tm 11) false⟩])
 (.block 0
  (.loop
   (.seq
   (.ops [⟨(some 13), none, .next (tm 12) false 0⟩,
     ⟨(some 14), none, .extract (tm 13) 0⟩])
   (.seq
   (.ite (tm 14)
    .skip
    (.exit 0))
   (.block 1
    (.seq
    (.ops [⟨(some 15), none, .entry (tm 12)⟩,
      ⟨(some 16), none, .extract (tm 15) 0⟩,
      ⟨(some 17), none, .extract (tm 15) 1⟩,
      ⟨(some 6), none, .alloc 99 [(.int .i64 0), (.int .i64 0), (.int .i64 0), (.int .i64 0), (.int .i64 0), (.int .i64 0)]⟩,
      ⟨none, none, .store 99 (tm 6) (tm 16) 6⟩,
      ⟨(some 7), none, .mov (tm 17)⟩])
    (.seq
    (.seq
    (.ops [⟨(some 18), none, .mov (tm 7)⟩,
      ⟨(some 19), none, .mov (tm 1)⟩,
      ⟨(some 20), none, .bin .and 3 (tm 18) (tm 19)⟩,
      ⟨(some 21), none, .mov (tm 1)⟩,
      ⟨(some 22), none, .bin .neq 3 (tm 20) (tm 21)⟩])
    (.ite (tm 22)
     (.exit 1)
     .skip))
    (.seq
    (.ops [⟨(some 23), none, .mov (tm 5)⟩,
      ⟨(some 24), none, .bin .add 3 (tm 23) (kc 1)⟩,
      ⟨(some 5), none, .mov (tm 24)⟩])
    (.seq
    (.ops [⟨(some 25), none, .mov (tm 5)⟩,
      ⟨(some 26), none, .bin .eql 3 (tm 25) (kc 1)⟩,
      ⟨(some 27), none, .mov (tm 26)⟩,
      ⟨(some 28), some (27, false), .load 99 (tm 6) (some 6)⟩,
      ⟨(some 29), some (27, false), .load 99 (tm 4) (some 6)⟩,
      ⟨(some 30), some (27, false), .call 97 [(tm 28), (tm 29)] 4⟩,
      ⟨(some 31), none, .pick (tm 27) (.const (.bool true)) (tm 30)⟩])
    (.ite (tm 31)
     (.ops [⟨(some 32), none, .load 99 (tm 6) (some 6)⟩,
       ⟨none, none, .store 99 (tm 4) (tm 32) 6⟩])
     .skip)))))))))))
 (.seq
 (.ops [⟨(some 33), none, .load 99 (tm 4) (some 6)⟩,
   ⟨(some 34), none, .mov (tm 5)⟩,
   ⟨none, none, .store 99 (tm 4) (tm 33) 6⟩,
   ⟨(some 5), none, .mov (tm 34)⟩])
 .ret)))
theorem fn60 : FnOK Try.prog 60 35 [.cell 4 99, .tmp 5] L60 := ⟨Try.f60, Try.func60, by kernel_rfl, Try.ntmps60, by rw [Try.results60], by kernel_rfl⟩
def L61 : LCode :=
 (.seq
 (.ops [⟨(some 2), none, .box 25 (tm 0)⟩,
   ⟨(some 4), none, .mov (kc 0)⟩])
 (.seq
 (.ops [⟨(some 5), none, .load 25 (tm 2) (some 3)⟩,
   ⟨(some 6), none, .mov (tm 1)⟩,
   ⟨(some 7), none, .bslice 32 1 [(0, (tm 6))] 3 1 [(.int .i64 0)]⟩,
   ⟨(some 8), none, .faddr 25 (tm 2) 2 2⟩,
   ⟨(some 9), none, .load 23 (tm 8) none⟩,
   ⟨(some 10), none, .len false 23 3 (tm 9)⟩,
   ⟨(some 11), none, .call 71 [(tm 5), (tm 7), (tm 10)] 26⟩,
   ⟨(some 4), none, .mov (tm 11)⟩])
 .ret))
theorem fn61 : FnOK Try.prog 61 12 [.tmp 4] L61 := ⟨Try.f61, Try.func61, by kernel_rfl, Try.ntmps61, by rw [Try.results61], by kernel_rfl⟩
def L62 : LCode :=
 (.seq
 (.ops [⟨(some 2), none, .mov (kc 0)⟩])
 (.seq
 (.ops [⟨(some 3), none, .mov (kc 0)⟩])
 (.seq
 (.seq
 (.ops [⟨(some 4), none, .mov (kc 0)⟩])
 (.block 0
  (.loop
   (.seq
   (.seq
   (.ops [⟨(some 5), none, .mov (tm 4)⟩,
     ⟨(some 6), none, .mov (tm 0)⟩,
     ⟨(some 7), none, .len false 104 3 (tm 6)⟩,
     ⟨(some 8), none, .bin .lss 3 (tm 5) (tm 7)⟩])
   (.ite (tm 8)
    .skip
    (.exit 0)))
   (.seq
   (.block 1
    (.seq
    (.ops [⟨(some 11), none, .mov (tm 0)⟩,
      ⟨(some 12), none, .mov (tm 4)⟩,
      ⟨(some 13), none, .iaddr 104 (tm 11) (tm 12) 1⟩,
      ⟨(some 14), none, .load 4 (tm 13) none⟩])
    (.ite (tm 14)
     (.ops [⟨(some 15), none, .mov (tm 3)⟩,
       ⟨(some 16), none, .bin .add 3 (tm 15) (kc 1)⟩,
       ⟨(some 3), none, .mov (tm 16)⟩])
     .skip)))
   (.ops [⟨(some 9), none, .mov (tm 4)⟩,
     ⟨(some 10), none, .bin .add 3 (tm 9) (kc 1)⟩,
     ⟨(some 4), none, .mov (tm 10)⟩]))))))
 (.seq
 (.ops [⟨(some 17), none, .mov (tm 3)⟩,
   ⟨(some 2), none, .mov (tm 17)⟩])
 .ret))))
theorem fn62 : FnOK Try.prog 62 18 [.tmp 2] L62 := ⟨Try.f62, Try.func62, by kernel_rfl, Try.ntmps62, by rw [Try.results62], by kernel_rfl⟩
def L63 : LCode :=
 (.seq
 (.ops [⟨(some 2), none, .box 25 (tm 0)⟩,
   ⟨(some 3), none, .box 55 (tm 1)⟩,
   ⟨(some 4), none, .mov (.const (.slice none 0 0))⟩])
 (.seq
 (.ops [⟨(some 12), none, .mslice 104 (kc 3125) (kc 3125) 4 1 1 [(.bool false)]⟩,
   ⟨(some 5), none, .mov (tm 12)⟩])
 (.seq
 (.ops [⟨(some 13), none, .mov (tm 5)⟩,
   ⟨(some 14), none, .iaddr 104 (tm 13) (kc 0) 1⟩,
   ⟨none, none, .store 4 (tm 14) (.const (.bool true)) 1⟩])
 (.seq
 (.seq
 (.ops [⟨(some 6), none, .mov (kc 0)⟩])
 (.block 0
  (.loop
   (.seq
   (.seq
   (.ops [⟨(some 15), none, .mov (tm 6)⟩,
     ⟨(some 16), none, .faddr 55 (tm 3) 1 1⟩,
     ⟨(some 17), none, .load 9 (tm 16) none⟩,
     ⟨(some 18), none, .len true 9 3 (tm 17)⟩,
     ⟨(some 19), none, .bin .lss 3 (tm 15) (tm 18)⟩])
   (.ite (tm 19)
    .skip
    (.exit 0)))
   (.seq
   (.block 1
    (.seq
    (.ops [⟨(some 22), none, .faddr 25 (tm 2) 1 1⟩,
      ⟨(some 23), none, .load 22 (tm 22) none⟩,
      ⟨(some 24), none, .faddr 55 (tm 3) 0 0⟩,
      ⟨(some 25), none, .load 3 (tm 24) none⟩,
      ⟨(some 26), none, .iaddr 22 (tm 23) (tm 25) 2⟩,
      ⟨(some 27), none, .load 67 (tm 26) (some 2)⟩,
      ⟨(some 7), none, .alloc 67 [(.string ⟨#[]⟩), (.slice none 0 0)]⟩,
      ⟨none, none, .store 67 (tm 7) (tm 27) 2⟩])
    (.seq
    (.dops [(⟨(some 28), none, .faddr 67 (tm 7) 1 1⟩, []),
      (⟨(some 29), none, .load 65 (tm 28) none⟩, [0]),
      (⟨(some 30), none, .load 67 (tm 7) (some 2)⟩, []),
      (⟨(some 31), none, .faddr 55 (tm 3) 1 1⟩, []),
      (⟨(some 32), none, .load 9 (tm 31) none⟩, [3]),
      (⟨(some 33), none, .mov (tm 6)⟩, []),
      (⟨(some 34), none, .indexS 9 (tm 32) (tm 33)⟩, [4, 5]),
      (⟨(some 35), none, .call 95 [(tm 30), (tm 34)] 3⟩, [2, 6]),
      (⟨(some 36), none, .iaddr 65 (tm 29) (tm 35) 3⟩, [1, 7]),
      (⟨(some 37), none, .load 69 (tm 36) (some 3)⟩, [8]),
      (⟨(some 8), none, .alloc 69 [(.int .u8 0), (.int .i64 0), (.bool false)]⟩, []),
      (⟨none, none, .store 69 (tm 8) (tm 37) 3⟩, [10, 9, 7, 0, 1, 2, 3, 4, 5, 6, 7, 8, 9, 10])])
    (.seq
    (.ops [⟨(some 38), none, .mslice 104 (kc 3125) (kc 3125) 4 1 1 [(.bool false)]⟩,
      ⟨(some 9), none, .mov (tm 38)⟩])
    (.seq
    (.seq
    (.ops [⟨(some 10), none, .mov (kc 0)⟩])
    (.block 2
     (.loop
      (.seq
      (.seq
      (.ops [⟨(some 39), none, .mov (tm 10)⟩,
        ⟨(some 40), none, .bin .lss 3 (tm 39) (kc 3125)⟩])
      (.ite (tm 40)
       .skip
       (.exit 2)))
      (.seq
      (.block 3
       (.seq
       (.seq
       (.ops [⟨(some 43), none, .mov (tm 5)⟩,
         ⟨(some 44), none, .mov (tm 10)⟩,
         ⟨(some 45), none, .iaddr 104 (tm 43) (tm 44) 1⟩,
         ⟨(some 46), none, .load 4 (tm 45) none⟩,
         ⟨(some 47), none, .un .not (tm 46)⟩])
       (.ite (tm 47)
        (.exit 3)
        .skip))
       (.seq
       (.ops [⟨(some 48), none, .mov (tm 9)⟩,
         ⟨(some 49), none, .mov (tm 10)⟩,
         ⟨(some 50), none, .mov (tm 9)⟩,
         ⟨(some 51), none, .mov (tm 10)⟩,
         ⟨(some 52), none, .iaddr 104 (tm 50) (tm 51) 1⟩,
         ⟨(some 53), none, .load 4 (tm 52) none⟩,
         ⟨(some 54), none, .mov (tm 53)⟩,
         ⟨(some 55), some (54, false), .faddr 69 (tm 8) 2 2⟩,
         ⟨(some 56), some (54, false), .load 4 (tm 55) none⟩,
         ⟨(some 57), none, .pick (tm 54) (.const (.bool true)) (tm 56)⟩,
         ⟨(some 58), none, .iaddr 104 (tm 48) (tm 49) 1⟩,
         ⟨none, none, .store 4 (tm 58) (tm 57) 1⟩])
       (.seq
       (.ops [⟨(some 11), none, .mov (kc 0)⟩])
       (.block 4
        (.loop
         (.seq
         (.seq
         (.ops [⟨(some 59), none, .mov (tm 11)⟩,
           ⟨(some 60), none, .faddr 25 (tm 2) 0 0⟩,
           ⟨(some 61), none, .load 3 (tm 60) none⟩,
           ⟨(some 62), none, .bin .lss 3 (tm 59) (tm 61)⟩])
         (.ite (tm 62)
          .skip
          (.exit 4)))
         (.seq
         (.block 5
          (.seq
          (.ops [⟨(some 65), none, .faddr 69 (tm 8) 1 1⟩,
            ⟨(some 66), none, .load 3 (tm 65) none⟩,
            ⟨(some 67), none, .mov (tm 11)⟩,
            ⟨(some 68), none, .call 41 [(tm 66), (tm 67)] 4⟩])
          (.ite (tm 68)
           (.ops [⟨(some 69), none, .mov (tm 9)⟩,
             ⟨(some 70), none, .mov (tm 10)⟩,
             ⟨(some 71), none, .bin .mul 3 (tm 70) (kc 5)⟩,
             ⟨(some 72), none, .mov (tm 11)⟩,
             ⟨(some 73), none, .bin .add 3 (tm 71) (tm 72)⟩,
             ⟨(some 74), none, .bin .add 3 (tm 73) (kc 1)⟩,
             ⟨(some 75), none, .iaddr 104 (tm 69) (tm 74) 1⟩,
             ⟨none, none, .store 4 (tm 75) (.const (.bool true)) 1⟩])
           .skip)))
         (.ops [⟨(some 63), none, .mov (tm 11)⟩,
           ⟨(some 64), none, .bin .add 3 (tm 63) (kc 1)⟩,
           ⟨(some 11), none, .mov (tm 64)⟩])))))))))
      (.ops [⟨(some 41), none, .mov (tm 10)⟩,
        ⟨(some 42), none, .bin .add 3 (tm 41) (kc 1)⟩,
        ⟨(some 10), none, .mov (tm 42)⟩]))))))
    (.ops [⟨(some 76), none, .mov (tm 9)⟩,
      ⟨(some 5), none, .mov (tm 76)⟩]))))))
   (.ops [⟨(some 20), none, .mov (tm 6)⟩,
     ⟨(some 21), none, .bin .add 3 (tm 20) (kc 1)⟩,
     ⟨(some 6), none, .mov (tm 21)⟩]))))))
 (.seq
 (.ops [⟨(some 77), none, .mov (tm 5)⟩,
   ⟨(some 4), none, .mov (tm 77)⟩])
 .ret)))))
theorem fn63 : FnOK Try.prog 63 78 [.tmp 4] L63 := ⟨Try.f63, Try.func63, by kernel_rfl, Try.ntmps63, by rw [Try.results63], by kernel_rfl⟩
def L64 : LCode :=
 (.seq
 (.ops [⟨(some 1), none, .box 99 (tm 0)⟩,
   ⟨(some 2), none, .mov (.const (.slice none 0 0))⟩])
 (.seq
 (.ops [⟨(some 4), none, .faddr 99 (tm 1) 0 0⟩,
   ⟨(some 5), none, .load 3 (tm 4) none⟩,
   ⟨(some 6), none, .mslice 32 (tm 5) (tm 5) 3 1 8 [(.int .i64 0)]⟩,
   ⟨(some 3), none, .mov (tm 6)⟩])
 (.seq
 (.ops [⟨(some 7), none, .mov (tm 3)⟩,
   ⟨(some 8), none, .faddr 99 (tm 1) 1 1⟩,
   ⟨(some 9), none, .sliceA 97 (tm 8) none none none 5 1⟩,
   ⟨(some 10), none, .copy 32 32 3 (tm 7) (tm 9) 3 1⟩])
 (.seq
 (.ops [⟨(some 11), none, .mov (tm 3)⟩,
   ⟨(some 2), none, .mov (tm 11)⟩])
 .ret))))
theorem fn64 : FnOK Try.prog 64 12 [.tmp 2] L64 := ⟨Try.f64, Try.func64, by kernel_rfl, Try.ntmps64, by rw [Try.results64], by kernel_rfl⟩
def L65 : LCode :=
 (.seq
 (.ops [⟨(some 2), none, .mov (.const (.slice none 0 0))⟩])
 (.seq
 (.seq
 (.ops [⟨(some 3), none, .mov (tm 0)⟩,
   ⟨(some 4), none, .bin .eql 3 (tm 3) (kc 0)⟩])
 (.ite (tm 4)
  (.seq
  (.ops [⟨(some 2), none, .mov (.const (.slice none 0 0))⟩])
  .ret)
  .skip))
 (.seq
 (.ops [⟨(some 5), none, .mov (tm 0)⟩,
   ⟨(some 6), none, .bin .quo 3 (tm 5) (kc 5)⟩,
   ⟨(some 7), none, .call 65 [(tm 6)] 32⟩,
   ⟨(some 8), none, .mov (tm 0)⟩,
   ⟨(some 9), none, .bin .rem 3 (tm 8) (kc 5)⟩,
   ⟨(some 10), none, .bin .sub 3 (tm 9) (kc 1)⟩,
   ⟨(some 11), none, .bslice 32 1 [(0, (tm 10))] 3 1 [(.int .i64 0)]⟩,
   ⟨(some 12), none, .append 32 32 (tm 7) (tm 11) 3 1 8 [(.int .i64 0)]⟩,
   ⟨(some 2), none, .mov (tm 12)⟩])
 .ret)))
theorem fn65 : FnOK Try.prog 65 13 [.tmp 2] L65 := ⟨Try.f65, Try.func65, by kernel_rfl, Try.ntmps65, by rw [Try.results65], by kernel_rfl⟩
def L66 : LCode :=
 (.seq
 (.ops [⟨(some 2), none, .mov (kc 0)⟩])
 (.seq
 (.seq
 (.ops [⟨(some 3), none, .mov (kc 0)⟩])
 (.block 0
  (.loop
   (.seq
   (.seq
   (.ops [⟨(some 4), none, .mov (tm 3)⟩,
     ⟨(some 5), none, .mov (tm 0)⟩,
     ⟨(some 6), none, .len false 104 3 (tm 5)⟩,
     ⟨(some 7), none, .bin .lss 3 (tm 4) (tm 6)⟩])
   (.ite (tm 7)
    .skip
    (.exit 0)))
   (.seq
   (.block 1
    (.seq
    (.ops [⟨(some 10), none, .mov (tm 0)⟩,
      ⟨(some 11), none, .mov (tm 3)⟩,
      ⟨(some 12), none, .iaddr 104 (tm 10) (tm 11) 1⟩,
      ⟨(some 13), none, .load 4 (tm 12) none⟩])
    (.ite (tm 13)
     (.seq
     (.ops [⟨(some 14), none, .mov (tm 3)⟩,
       ⟨(some 2), none, .mov (tm 14)⟩])
     .ret)
     .skip)))
   (.ops [⟨(some 8), none, .mov (tm 3)⟩,
     ⟨(some 9), none, .bin .add 3 (tm 8) (kc 1)⟩,
     ⟨(some 3), none, .mov (tm 9)⟩]))))))
 (.seq
 (.ops [⟨(some 2), none, .mov (kc (-1))⟩])
 .ret)))
theorem fn66 : FnOK Try.prog 66 15 [.tmp 2] L66 := ⟨Try.f66, Try.func66, by kernel_rfl, Try.ntmps66, by rw [Try.results66], by kernel_rfl⟩
def L67 : LCode :=
 (.seq
 (.ops [⟨(some 4), none, .mov (.const (.bool false))⟩])
 (.seq
 (.ops [⟨(some 5), none, .mov (kc 0)⟩])
 (.seq
 (.block 0
  (.loop
   (.seq
   (.seq
   (.dops [(⟨(some 6), none, .mov (tm 5)⟩, []),
     (⟨(some 7), none, .mov (tm 0)⟩, []),
     (⟨(some 8), none, .len false 32 3 (tm 7)⟩, [1]),
     (⟨(some 9), none, .bin .lss 3 (tm 6) (tm 8)⟩, [0, 2]),
     (⟨(some 10), none, .mov (tm 9)⟩, [3]),
     (⟨(some 11), some (10, true), .mov (tm 5)⟩, [4]),
     (⟨(some 12), some (10, true), .mov (tm 1)⟩, [4]),
     (⟨(some 13), some (10, true), .len false 32 3 (tm 12)⟩, [6, 4]),
     (⟨(some 14), some (10, true), .bin .lss 3 (tm 11) (tm 13)⟩, [5, 7, 4]),
     (⟨(some 15), none, .pick (tm 10) (tm 14) (.const (.bool false))⟩, [4, 8]),
     (⟨(some 16), none, .mov (tm 15)⟩, [9, 4]),
     (⟨(some 17), some (16, true), .mov (tm 0)⟩, [10]),
     (⟨(some 18), some (16, true), .mov (tm 5)⟩, [10]),
     (⟨(some 19), some (16, true), .iaddr 32 (tm 17) (tm 18) 1⟩, [11, 12, 10]),
     (⟨(some 20), some (16, true), .load 3 (tm 19) none⟩, [13, 10]),
     (⟨(some 21), some (16, true), .mov (tm 1)⟩, [10]),
     (⟨(some 22), some (16, true), .mov (tm 5)⟩, [10]),
     (⟨(some 23), some (16, true), .iaddr 32 (tm 21) (tm 22) 1⟩, [15, 16, 10]),
     (⟨(some 24), some (16, true), .load 3 (tm 23) none⟩, [17, 10]),
     (⟨(some 25), some (16, true), .bin .eql 3 (tm 20) (tm 24)⟩, [14, 18, 10]),
     (⟨(some 26), none, .pick (tm 16) (tm 25) (.const (.bool false))⟩, [10, 19])])
   (.ite (tm 26)
    .skip
    (.exit 0)))
   (.block 1
    (.ops [⟨(some 27), none, .mov (tm 5)⟩,
      ⟨(some 28), none, .bin .add 3 (tm 27) (kc 1)⟩,
      ⟨(some 5), none, .mov (tm 28)⟩])))))
 (.seq
 (.seq
 (.ops [⟨(some 29), none, .mov (tm 5)⟩,
   ⟨(some 30), none, .mov (tm 1)⟩,
   ⟨(some 31), none, .len false 32 3 (tm 30)⟩,
   ⟨(some 32), none, .bin .eql 3 (tm 29) (tm 31)⟩])
 (.ite (tm 32)
  (.seq
  (.ops [⟨(some 4), none, .mov (.const (.bool false))⟩])
  .ret)
  .skip))
 (.seq
 (.dops [(⟨(some 33), none, .mov (tm 5)⟩, []),
   (⟨(some 34), none, .mov (tm 0)⟩, []),
   (⟨(some 35), none, .len false 32 3 (tm 34)⟩, [1]),
   (⟨(some 36), none, .bin .eql 3 (tm 33) (tm 35)⟩, [0, 2]),
   (⟨(some 37), none, .mov (tm 36)⟩, [3]),
   (⟨(some 38), some (37, false), .mov (tm 0)⟩, [4]),
   (⟨(some 39), some (37, false), .mov (tm 5)⟩, [4]),
   (⟨(some 40), some (37, false), .iaddr 32 (tm 38) (tm 39) 1⟩, [5, 6, 4]),
   (⟨(some 41), some (37, false), .load 3 (tm 40) none⟩, [7, 4]),
   (⟨(some 42), some (37, false), .mov (tm 1)⟩, [4]),
   (⟨(some 43), some (37, false), .mov (tm 5)⟩, [4]),
   (⟨(some 44), some (37, false), .iaddr 32 (tm 42) (tm 43) 1⟩, [9, 10, 4]),
   (⟨(some 45), some (37, false), .load 3 (tm 44) none⟩, [11, 4]),
   (⟨(some 46), some (37, false), .bin .lss 3 (tm 41) (tm 45)⟩, [8, 12, 4]),
   (⟨(some 47), none, .pick (tm 37) (.const (.bool true)) (tm 46)⟩, [4, 13]),
   (⟨(some 4), none, .mov (tm 47)⟩, [14, 4, 0, 1, 2, 3, 4, 5, 6, 7, 8, 9, 10, 11, 12, 13, 14])])
 .ret)))))
theorem fn67 : FnOK Try.prog 67 48 [.tmp 4] L67 := ⟨Try.f67, Try.func67, by kernel_rfl, Try.ntmps67, by rw [Try.results67], by kernel_rfl⟩
def L68 : LCode :=
 (.seq
 (.ops [⟨(some 4), none, .alloc 99 [(.int .i64 0), (.int .i64 0), (.int .i64 0), (.int .i64 0), (.int .i64 0), (.int .i64 0)]⟩,
   ⟨(some 5), none, .mov (kc 0)⟩])
 (.seq
 (.block 0
  (.seq
  (.ops [⟨(some 7), none, .mov (tm 1)⟩,
    ⟨(some 8), none, .len false 32 3 (tm 7)⟩,
    ⟨(some 9), none, .bin .gtr 3 (tm 8) (kc 5)⟩,
    ⟨(some 6), none, .mov (tm 9)⟩])
  (.ite (tm 6)
   (.seq
   (.ops [⟨(some 10), none, .load 99 (tm 4) (some 6)⟩,
     ⟨none, none, .store 99 (tm 4) (tm 10) 6⟩,
     ⟨(some 5), none, .mov (kc 3)⟩])
   .ret)
   (.seq
   (.ops [⟨(some 12), none, .mov (tm 0)⟩,
     ⟨(some 13), none, .nilck (tm 12)⟩,
     ⟨(some 14), none, .faddr 112 (tm 13) 0 0⟩,
     ⟨(some 15), none, .faddr 25 (tm 14) 0 0⟩,
     ⟨(some 16), none, .load 3 (tm 15) none⟩,
     ⟨(some 17), none, .bin .sub 3 (tm 16) (kc 1)⟩,
     ⟨(some 18), none, .mov (tm 1)⟩,
     ⟨(some 19), none, .call 44 [(kc 0), (tm 17), (tm 18)] 4⟩,
     ⟨(some 11), none, .mov (tm 19)⟩])
   (.ite (tm 11)
    (.seq
    (.ops [⟨(some 20), none, .load 99 (tm 4) (some 6)⟩,
      ⟨none, none, .store 99 (tm 4) (tm 20) 6⟩,
      ⟨(some 5), none, .mov (kc 7)⟩])
    .ret)
    .skip)))))
 (.seq
 (.ops [⟨(some 21), none, .faddr 99 (tm 4) 1 1⟩,
   ⟨(some 22), none, .sliceA 97 (tm 21) none none none 5 1⟩,
   ⟨(some 23), none, .mov (tm 1)⟩,
   ⟨(some 24), none, .copy 32 32 3 (tm 22) (tm 23) 3 1⟩,
   ⟨(some 25), none, .faddr 99 (tm 4) 0 0⟩,
   ⟨none, none, .store 3 (tm 25) (tm 24) 1⟩])
 (.seq
 (.ops [⟨(some 26), none, .load 99 (tm 4) (some 6)⟩,
   ⟨none, none, .store 99 (tm 4) (tm 26) 6⟩,
   ⟨(some 5), none, .mov (kc 0)⟩])
 .ret))))
theorem fn68 : FnOK Try.prog 68 27 [.cell 4 99, .tmp 5] L68 := ⟨Try.f68, Try.func68, by kernel_rfl, Try.ntmps68, by rw [Try.results68], by kernel_rfl⟩
def L69 : LCode :=
 (.seq
 (.ops [⟨(some 3), none, .box 25 (tm 0)⟩,
   ⟨(some 6), none, .mov (kc 0)⟩])
 (.seq
 (.seq
 (.ops [⟨(some 8), none, .mov (tm 2)⟩,
   ⟨(some 9), none, .bin .eql 26 (tm 8) (kc 0)⟩,
   ⟨(some 10), none, .mov (tm 9)⟩,
   ⟨(some 11), some (10, true), .mov (tm 1)⟩,
   ⟨(some 12), some (10, true), .len false 32 3 (tm 11)⟩,
   ⟨(some 13), some (10, true), .bin .gtr 3 (tm 12) (kc 5)⟩,
   ⟨(some 14), none, .pick (tm 10) (tm 13) (.const (.bool false))⟩])
 (.ite (tm 14)
  (.ops [⟨(some 2), none, .mov (kc 3)⟩])
  .skip))
 (.seq
 (.seq
 (.ops [⟨(some 7), none, .mov (kc 0)⟩])
 (.block 0
  (.loop
   (.seq
   (.seq
   (.ops [⟨(some 15), none, .mov (tm 7)⟩,
     ⟨(some 16), none, .mov (tm 1)⟩,
     ⟨(some 17), none, .len false 32 3 (tm 16)⟩,
     ⟨(some 18), none, .bin .lss 3 (tm 15) (tm 17)⟩,
     ⟨(some 19), none, .mov (tm 18)⟩,
     ⟨(some 20), some (19, true), .mov (tm 2)⟩,
     ⟨(some 21), some (19, true), .bin .eql 26 (tm 20) (kc 0)⟩,
     ⟨(some 22), none, .pick (tm 19) (tm 21) (.const (.bool false))⟩])
   (.ite (tm 22)
    .skip
    (.exit 0)))
   (.seq
   (.block 1
    (.seq
    (.dops [(⟨(some 25), none, .mov (tm 1)⟩, []),
      (⟨(some 26), none, .mov (tm 7)⟩, []),
      (⟨(some 27), none, .iaddr 32 (tm 25) (tm 26) 1⟩, [0, 1]),
      (⟨(some 28), none, .load 3 (tm 27) none⟩, [2]),
      (⟨(some 29), none, .faddr 25 (tm 3) 0 0⟩, []),
      (⟨(some 30), none, .load 3 (tm 29) none⟩, [4]),
      (⟨(some 31), none, .bin .sub 3 (tm 30) (kc 1)⟩, [5]),
      (⟨(some 32), none, .call 55 [(tm 28), (kc 0), (tm 31)] 4⟩, [3, 6]),
      (⟨(some 33), none, .un .not (tm 32)⟩, [7])])
    (.ite (tm 33)
     (.ops [⟨(some 2), none, .mov (kc 7)⟩])
     .skip)))
   (.ops [⟨(some 23), none, .mov (tm 7)⟩,
     ⟨(some 24), none, .bin .add 3 (tm 23) (kc 1)⟩,
     ⟨(some 7), none, .mov (tm 24)⟩]))))))
 (.seq
 (.ops [⟨(some 34), none, .mov (tm 2)⟩,
   ⟨(some 6), none, .mov (tm 34)⟩])
 .ret))))
theorem fn69 : FnOK Try.prog 69 35 [.tmp 6] L69 := ⟨Try.f69, Try.func69, by kernel_rfl, Try.ntmps69, by rw [Try.results69], by kernel_rfl⟩
def L70 : LCode :=
 (.seq
 (.ops [⟨(some 2), none, .mov (kc 0)⟩])
 (.seq
 (.ops [⟨(some 3), none, .mov (kc 0)⟩])
 (.seq
 (.seq
 (.ops [⟨(some 4), none, .mov (kc 0)⟩])
 (.block 0
  (.loop
   (.seq
   (.seq
   (.ops [⟨(some 5), none, .mov (tm 4)⟩,
     ⟨(some 6), none, .mov (tm 0)⟩,
     ⟨(some 7), none, .len false 32 3 (tm 6)⟩,
     ⟨(some 8), none, .bin .lss 3 (tm 5) (tm 7)⟩])
   (.ite (tm 8)
    .skip
    (.exit 0)))
   (.seq
   (.block 1
    (.ops [⟨(some 11), none, .mov (tm 3)⟩,
      ⟨(some 12), none, .bin .mul 3 (tm 11) (kc 5)⟩,
      ⟨(some 13), none, .mov (tm 0)⟩,
      ⟨(some 14), none, .mov (tm 4)⟩,
      ⟨(some 15), none, .iaddr 32 (tm 13) (tm 14) 1⟩,
      ⟨(some 16), none, .load 3 (tm 15) none⟩,
      ⟨(some 17), none, .bin .add 3 (tm 12) (tm 16)⟩,
      ⟨(some 18), none, .bin .add 3 (tm 17) (kc 1)⟩,
      ⟨(some 3), none, .mov (tm 18)⟩]))
   (.ops [⟨(some 9), none, .mov (tm 4)⟩,
     ⟨(some 10), none, .bin .add 3 (tm 9) (kc 1)⟩,
     ⟨(some 4), none, .mov (tm 10)⟩]))))))
 (.seq
 (.ops [⟨(some 19), none, .mov (tm 3)⟩,
   ⟨(some 2), none, .mov (tm 19)⟩])
 .ret))))
theorem fn70 : FnOK Try.prog 70 20 [.tmp 2] L70 := ⟨Try.f70, Try.func70, by kernel_rfl, Try.ntmps70, by rw [Try.results70], by kernel_rfl⟩
def L71 : LCode :=
 (.seq
 (.ops [⟨(some 3), none, .box 25 (tm 0)⟩,
   ⟨(some 6), none, .mov (kc 0)⟩])
 (.seq
 (.ops [⟨(some 12), none, .load 25 (tm 3) (some 3)⟩,
   ⟨(some 13), none, .call 18 [(tm 12)] 27⟩,
   ⟨(some 11), none, .mov (tm 13)⟩,
   ⟨(some 14), none, .extract (tm 11) 0⟩,
   ⟨(some 15), none, .extract (tm 11) 1⟩,
   ⟨(some 16), none, .extract (tm 11) 2⟩,
   ⟨(some 7), none, .mov (tm 14)⟩,
   ⟨(some 8), none, .mov (tm 15)⟩,
   ⟨(some 9), none, .mov (tm 16)⟩])
 (.seq
 (.seq
 (.ops [⟨(some 10), none, .mov (kc 0)⟩])
 (.block 0
  (.loop
   (.seq
   (.seq
   (.ops [⟨(some 17), none, .mov (tm 10)⟩,
     ⟨(some 18), none, .mov (tm 1)⟩,
     ⟨(some 19), none, .len false 32 3 (tm 18)⟩,
     ⟨(some 20), none, .bin .lss 3 (tm 17) (tm 19)⟩,
     ⟨(some 21), none, .mov (tm 20)⟩,
     ⟨(some 22), some (21, true), .mov (tm 9)⟩,
     ⟨(some 23), some (21, true), .bin .eql 26 (tm 22) (kc 0)⟩,
     ⟨(some 24), none, .pick (tm 21) (tm 23) (.const (.bool false))⟩])
   (.ite (tm 24)
    .skip
    (.exit 0)))
   (.seq
   (.block 1
    (.seq
    (.ops [⟨(some 27), none, .mov (tm 1)⟩,
      ⟨(some 28), none, .mov (tm 10)⟩,
      ⟨(some 29), none, .iaddr 32 (tm 27) (tm 28) 1⟩,
      ⟨(some 30), none, .load 3 (tm 29) none⟩,
      ⟨(some 31), none, .mov (tm 2)⟩,
      ⟨(some 32), none, .bin .sub 3 (tm 31) (kc 1)⟩,
      ⟨(some 33), none, .call 55 [(tm 30), (kc 0), (tm 32)] 4⟩,
      ⟨(some 34), none, .un .not (tm 33)⟩])
    (.ite (tm 34)
     (.ops [⟨(some 9), none, .mov (kc 4)⟩])
     .skip)))
   (.ops [⟨(some 25), none, .mov (tm 10)⟩,
     ⟨(some 26), none, .bin .add 3 (tm 25) (kc 1)⟩,
     ⟨(some 10), none, .mov (tm 26)⟩]))))))
 (.seq
 (.ops [⟨(some 35), none, .mov (tm 9)⟩,
   ⟨(some 6), none, .mov (tm 35)⟩])
 .ret))))
theorem fn71 : FnOK Try.prog 71 36 [.tmp 6] L71 := ⟨Try.f71, Try.func71, by kernel_rfl, Try.ntmps71, by rw [Try.results71], by kernel_rfl⟩
def L72 : LCode :=
 (.seq
 (.ops [⟨(some 4), none, .mov (kc 0)⟩])
 (.seq
 (.seq
 (.ops [⟨(some 5), none, .mov (tm 0)⟩])
 (.block 0
  (.seq
  (.ops [⟨(some 7), none, .mov (tm 1)⟩,
    ⟨(some 8), none, .bin .eql 3 (tm 5) (tm 7)⟩,
    ⟨(some 6), none, .mov (tm 8)⟩])
  (.ite (tm 6)
   (.seq
   (.ops [⟨(some 4), none, .mov (kc 1)⟩])
   .ret)
   (.seq
   (.ops [⟨(some 10), none, .bin .eql 3 (tm 5) (kc 0)⟩,
     ⟨(some 9), none, .mov (tm 10)⟩])
   (.ite (tm 9)
    (.seq
    (.ops [⟨(some 4), none, .mov (kc 2)⟩])
    .ret)
    .skip))))))
 (.seq
 (.ops [⟨(some 4), none, .mov (kc 0)⟩])
 .ret)))
theorem fn72 : FnOK Try.prog 72 11 [.tmp 4] L72 := ⟨Try.f72, Try.func72, by kernel_rfl, Try.ntmps72, by rw [Try.results72], by kernel_rfl⟩
def L73 : LCode :=
 (.seq
 (.ops [⟨(some 2), none, .box 25 (tm 0)⟩,
   ⟨(some 4), none, .mov (.const (.slice none 0 0))⟩])
 (.seq
 (.ops [⟨(some 9), none, .mslice 104 (kc 3125) (kc 3125) 4 1 1 [(.bool false)]⟩,
   ⟨(some 5), none, .mov (tm 9)⟩])
 (.seq
 (.seq
 (.ops [⟨(some 6), none, .mov (kc 0)⟩])
 (.block 0
  (.loop
   (.seq
   (.seq
   (.ops [⟨(some 10), none, .mov (tm 6)⟩,
     ⟨(some 11), none, .mov (tm 1)⟩,
     ⟨(some 12), none, .len false 32 3 (tm 11)⟩,
     ⟨(some 13), none, .bin .lss 3 (tm 10) (tm 12)⟩])
   (.ite (tm 13)
    .skip
    (.exit 0)))
   (.seq
   (.block 1
    (.seq
    (.dops [(⟨(some 16), none, .load 25 (tm 2) (some 3)⟩, []),
      (⟨(some 17), none, .faddr 25 (tm 2) 2 2⟩, []),
      (⟨(some 18), none, .load 23 (tm 17) none⟩, [1]),
      (⟨(some 19), none, .mov (tm 1)⟩, []),
      (⟨(some 20), none, .mov (tm 6)⟩, []),
      (⟨(some 21), none, .iaddr 32 (tm 19) (tm 20) 1⟩, [3, 4]),
      (⟨(some 22), none, .load 3 (tm 21) none⟩, [5]),
      (⟨(some 23), none, .iaddr 23 (tm 18) (tm 22) 2⟩, [2, 6]),
      (⟨(some 24), none, .load 55 (tm 23) (some 2)⟩, [7]),
      (⟨(some 25), none, .call 63 [(tm 16), (tm 24)] 104⟩, [0, 8]),
      (⟨(some 7), none, .mov (tm 25)⟩, [9, 9, 0, 1, 2, 3, 4, 5, 6, 7, 8, 9])])
    (.seq
    (.seq
    (.ops [⟨(some 8), none, .mov (kc 0)⟩])
    (.block 2
     (.loop
      (.seq
      (.seq
      (.ops [⟨(some 26), none, .mov (tm 8)⟩,
        ⟨(some 27), none, .bin .lss 3 (tm 26) (kc 3125)⟩])
      (.ite (tm 27)
       .skip
       (.exit 2)))
      (.seq
      (.block 3
       (.ops [⟨(some 30), none, .mov (tm 7)⟩,
         ⟨(some 31), none, .mov (tm 8)⟩,
         ⟨(some 32), none, .mov (tm 7)⟩,
         ⟨(some 33), none, .mov (tm 8)⟩,
         ⟨(some 34), none, .iaddr 104 (tm 32) (tm 33) 1⟩,
         ⟨(some 35), none, .load 4 (tm 34) none⟩,
         ⟨(some 36), none, .mov (tm 35)⟩,
         ⟨(some 37), some (36, true), .mov (tm 6)⟩,
         ⟨(some 38), some (36, true), .bin .eql 3 (tm 37) (kc 0)⟩,
         ⟨(some 39), some (36, true), .mov (tm 38)⟩,
         ⟨(some 40), some (39, false), .mov (tm 5)⟩,
         ⟨(some 41), some (39, false), .mov (tm 8)⟩,
         ⟨(some 42), some (39, false), .iaddr 104 (tm 40) (tm 41) 1⟩,
         ⟨(some 43), some (39, false), .load 4 (tm 42) none⟩,
         ⟨(some 44), some (36, true), .pick (tm 39) (.const (.bool true)) (tm 43)⟩,
         ⟨(some 45), none, .pick (tm 36) (tm 44) (.const (.bool false))⟩,
         ⟨(some 46), none, .iaddr 104 (tm 30) (tm 31) 1⟩,
         ⟨none, none, .store 4 (tm 46) (tm 45) 1⟩]))
      (.ops [⟨(some 28), none, .mov (tm 8)⟩,
        ⟨(some 29), none, .bin .add 3 (tm 28) (kc 1)⟩,
        ⟨(some 8), none, .mov (tm 29)⟩]))))))
    (.ops [⟨(some 47), none, .mov (tm 7)⟩,
      ⟨(some 5), none, .mov (tm 47)⟩]))))
   (.ops [⟨(some 14), none, .mov (tm 6)⟩,
     ⟨(some 15), none, .bin .add 3 (tm 14) (kc 1)⟩,
     ⟨(some 6), none, .mov (tm 15)⟩]))))))
 (.seq
 (.ops [⟨(some 48), none, .mov (tm 5)⟩,
   ⟨(some 4), none, .mov (tm 48)⟩])
 .ret))))
theorem fn73 : FnOK Try.prog 73 49 [.tmp 4] L73 := ⟨Try.f73, Try.func73, by kernel_rfl, Try.ntmps73, by rw [Try.results73], by kernel_rfl⟩
def L74 : LCode :=
 (.seq
 (.ops [⟨(some 4), none, .mov (.const (.slice none 0 0))⟩])
 (.seq
 (.seq
 (.ops [⟨(some 6), none, .mov (tm 1)⟩,
   ⟨(some 7), none, .mov (kc 0)⟩])
 (.block 0
  (.loop
   (.seq
   (.ops [⟨(some 8), none, .bin .lss 3 (tm 7) (tm 6)⟩])
   (.seq
   (.ite (tm 8)
    .skip
    (.exit 0))
   (.seq
   (.block 1
    (.seq
    (.ops [⟨(some 9), none, .mov (tm 7)⟩,
      ⟨(some 5), none, .mov (tm 9)⟩])
    (.seq
    (.ops [⟨(some 10), none, .mov (tm 0)⟩,
      ⟨(some 11), none, .mov (tm 5)⟩,
      ⟨(some 12), none, .bin .shr 3 (tm 10) (tm 11)⟩,
      ⟨(some 13), none, .bin .and 3 (tm 12) (kc 1)⟩,
      ⟨(some 14), none, .bin .eql 3 (tm 13) (kc 1)⟩])
    (.ite (tm 14)
     (.ops [⟨(some 15), none, .mov (tm 4)⟩,
       ⟨(some 16), none, .mov (tm 5)⟩,
       ⟨(some 17), none, .bslice 32 1 [(0, (tm 16))] 3 1 [(.int .i64 0)]⟩,
       ⟨(some 18), none, .append 32 32 (tm 15) (tm 17) 3 1 8 [(.int .i64 0)]⟩,
       ⟨(some 4), none, .mov (tm 18)⟩])
     .skip))))
   (.ops [⟨(some 19), none, .bin .add 3 (tm 7) (kc 1)⟩,
     ⟨(some 7), none, .mov (tm 19)⟩])))))))
 (.seq
 (.ops [⟨(some 20), none, .mov (tm 4)⟩,
   ⟨(some 4), none, .mov (tm 20)⟩])
 .ret)))
theorem fn74 : FnOK Try.prog 74 21 [.tmp 4] L74 := ⟨Try.f74, Try.func74, by kernel_rfl, Try.ntmps74, by rw [Try.results74], by kernel_rfl⟩
def L75 : LCode :=
 (.seq
 (.ops [⟨(some 4), none, .mov (kc 0)⟩])
 (.seq
 (.seq
 (.ops [⟨(some 9), none, .mov (tm 0)⟩,
   ⟨(some 10), none, .len false 32 3 (tm 9)⟩,
   ⟨(some 11), none, .mov (kc 0)⟩])
 (.block 0
  (.loop
   (.seq
   (.ops [⟨(some 12), none, .bin .lss 3 (tm 11) (tm 10)⟩])
   (.seq
   (.ite (tm 12)
    .skip
    (.exit 0))
   (.seq
   (.block 1
    (.seq
    (.ops [⟨(some 13), none, .mov (tm 11)⟩,
      ⟨(some 14), none, .iaddr 32 (tm 9) (tm 11) 1⟩,
      ⟨(some 15), none, .load 3 (tm 14) none⟩,
      ⟨(some 5), none, .mov (tm 13)⟩,
      ⟨(some 6), none, .mov (tm 15)⟩])
    (.seq
    (.seq
    (.ops [⟨(some 16), none, .mov (tm 5)⟩,
      ⟨(some 17), none, .mov (tm 1)⟩,
      ⟨(some 18), none, .len false 32 3 (tm 17)⟩,
      ⟨(some 19), none, .bin .geq 3 (tm 16) (tm 18)⟩])
    (.ite (tm 19)
     (.seq
     (.ops [⟨(some 4), none, .mov (kc 1)⟩])
     .ret)
     .skip))
    (.seq
    (.ops [⟨(some 20), none, .mov (tm 1)⟩,
      ⟨(some 21), none, .mov (tm 5)⟩,
      ⟨(some 22), none, .iaddr 32 (tm 20) (tm 21) 1⟩,
      ⟨(some 23), none, .load 3 (tm 22) none⟩,
      ⟨(some 7), none, .mov (tm 23)⟩])
    (.seq
    (.ops [⟨(some 24), none, .mov (tm 6)⟩,
      ⟨(some 25), none, .mov (tm 7)⟩,
      ⟨(some 26), none, .call 98 [(tm 24), (tm 25)] 3⟩,
      ⟨(some 8), none, .mov (tm 26)⟩])
    (.seq
    (.ops [⟨(some 27), none, .mov (tm 8)⟩,
      ⟨(some 28), none, .bin .neq 3 (tm 27) (kc 0)⟩])
    (.ite (tm 28)
     (.seq
     (.ops [⟨(some 29), none, .mov (tm 8)⟩,
       ⟨(some 4), none, .mov (tm 29)⟩])
     .ret)
     .skip)))))))
   (.ops [⟨(some 30), none, .bin .add 3 (tm 11) (kc 1)⟩,
     ⟨(some 11), none, .mov (tm 30)⟩])))))))
 (.seq
 (.seq
 (.ops [⟨(some 31), none, .mov (tm 0)⟩,
   ⟨(some 32), none, .len false 32 3 (tm 31)⟩,
   ⟨(some 33), none, .mov (tm 1)⟩,
   ⟨(some 34), none, .len false 32 3 (tm 33)⟩,
   ⟨(some 35), none, .bin .lss 3 (tm 32) (tm 34)⟩])
 (.ite (tm 35)
  (.seq
  (.ops [⟨(some 4), none, .mov (kc (-1))⟩])
  .ret)
  .skip))
 (.seq
 (.ops [⟨(some 4), none, .mov (kc 0)⟩])
 .ret))))
theorem fn75 : FnOK Try.prog 75 36 [.tmp 4] L75 := ⟨Try.f75, Try.func75, by kernel_rfl, Try.ntmps75, by rw [Try.results75], by kernel_rfl⟩
def L76 : LCode :=
 (.seq
 (.ops [⟨(some 4), none, .mov (.const (.slice none 0 0))⟩])
 (.seq
 (.ops [⟨(some 11), none, .bslice 120 1 [(0, (.const (.slice none 0 0)))] 32 1 [(.slice none 0 0)]⟩,
   ⟨(some 5), none, .mov (tm 11)⟩])
 (.seq
 (.seq
 (.ops [⟨(some 6), none, .mov (kc 0)⟩])
 (.block 0
  (.loop
   (.seq
   (.seq
   (.ops [⟨(some 12), none, .mov (tm 6)⟩,
     ⟨(some 13), none, .mov (tm 1)⟩,
     ⟨(some 14), none, .bin .lss 3 (tm 12) (tm 13)⟩])
   (.ite (tm 14)
    .skip
    (.exit 0)))
   (.seq
   (.block 1
    (.seq
    (.ops [⟨(some 7), none, .mov (.const (.slice none 0 0))⟩])
    (.seq
    (.seq
    (.ops [⟨(some 8), none, .mov (kc 0)⟩])
    (.block 2
     (.loop
      (.seq
      (.seq
      (.ops [⟨(some 17), none, .mov (tm 8)⟩,
        ⟨(some 18), none, .mov (tm 5)⟩,
        ⟨(some 19), none, .len false 120 3 (tm 18)⟩,
        ⟨(some 20), none, .bin .lss 3 (tm 17) (tm 19)⟩])
      (.ite (tm 20)
       .skip
       (.exit 2)))
      (.seq
      (.block 3
       (.seq
       (.ops [⟨(some 9), none, .mov (kc 0)⟩])
       (.seq
       (.seq
       (.ops [⟨(some 23), none, .mov (tm 6)⟩,
         ⟨(some 24), none, .bin .gtr 3 (tm 23) (kc 0)⟩])
       (.ite (tm 24)
        (.ops [⟨(some 25), none, .mov (tm 5)⟩,
          ⟨(some 26), none, .mov (tm 8)⟩,
          ⟨(some 27), none, .iaddr 120 (tm 25) (tm 26) 1⟩,
          ⟨(some 28), none, .load 32 (tm 27) none⟩,
          ⟨(some 29), none, .mov (tm 6)⟩,
          ⟨(some 30), none, .bin .sub 3 (tm 29) (kc 1)⟩,
          ⟨(some 31), none, .iaddr 32 (tm 28) (tm 30) 1⟩,
          ⟨(some 32), none, .load 3 (tm 31) none⟩,
          ⟨(some 33), none, .bin .add 3 (tm 32) (kc 1)⟩,
          ⟨(some 9), none, .mov (tm 33)⟩])
        .skip))
       (.seq
       (.ops [⟨(some 34), none, .mov (tm 9)⟩,
         ⟨(some 10), none, .mov (tm 34)⟩])
       (.block 4
        (.loop
         (.seq
         (.seq
         (.ops [⟨(some 35), none, .mov (tm 10)⟩,
           ⟨(some 36), none, .mov (tm 0)⟩,
           ⟨(some 37), none, .bin .lss 3 (tm 35) (tm 36)⟩])
         (.ite (tm 37)
          .skip
          (.exit 4)))
         (.seq
         (.block 5
          (.ops [⟨(some 40), none, .mov (tm 7)⟩,
            ⟨(some 41), none, .bslice 32 0 [] 3 1 [(.int .i64 0)]⟩,
            ⟨(some 42), none, .mov (tm 5)⟩,
            ⟨(some 43), none, .mov (tm 8)⟩,
            ⟨(some 44), none, .iaddr 120 (tm 42) (tm 43) 1⟩,
            ⟨(some 45), none, .load 32 (tm 44) none⟩,
            ⟨(some 46), none, .append 32 32 (tm 41) (tm 45) 3 1 8 [(.int .i64 0)]⟩,
            ⟨(some 47), none, .mov (tm 10)⟩,
            ⟨(some 48), none, .bslice 32 1 [(0, (tm 47))] 3 1 [(.int .i64 0)]⟩,
            ⟨(some 49), none, .append 32 32 (tm 46) (tm 48) 3 1 8 [(.int .i64 0)]⟩,
            ⟨(some 50), none, .bslice 120 1 [(0, (tm 49))] 32 1 [(.slice none 0 0)]⟩,
            ⟨(some 51), none, .append 120 120 (tm 40) (tm 50) 32 1 24 [(.slice none 0 0)]⟩,
            ⟨(some 7), none, .mov (tm 51)⟩]))
         (.ops [⟨(some 38), none, .mov (tm 10)⟩,
           ⟨(some 39), none, .bin .add 3 (tm 38) (kc 1)⟩,
           ⟨(some 10), none, .mov (tm 39)⟩])))))))))
      (.ops [⟨(some 21), none, .mov (tm 8)⟩,
        ⟨(some 22), none, .bin .add 3 (tm 21) (kc 1)⟩,
        ⟨(some 8), none, .mov (tm 22)⟩]))))))
    (.ops [⟨(some 52), none, .mov (tm 7)⟩,
      ⟨(some 5), none, .mov (tm 52)⟩]))))
   (.ops [⟨(some 15), none, .mov (tm 6)⟩,
     ⟨(some 16), none, .bin .add 3 (tm 15) (kc 1)⟩,
     ⟨(some 6), none, .mov (tm 16)⟩]))))))
 (.seq
 (.ops [⟨(some 53), none, .mov (tm 5)⟩,
   ⟨(some 4), none, .mov (tm 53)⟩])
 .ret))))
theorem fn76 : FnOK Try.prog 76 54 [.tmp 4] L76 := ⟨Try.f76, Try.func76, by kernel_rfl, Try.ntmps76, by rw [Try.results76], by kernel_rfl⟩
def L77 : LCode :=
 (.seq
 (.ops [⟨(some 7), none, .mov (.const (.string ⟨#[]⟩))⟩,
   ⟨(some 8), none, .mov (.const (.bool false))⟩])
 (.seq
 (.seq
 (.ops [⟨(some 15), none, .mov (tm 1)⟩,
   ⟨(some 16), none, .bin .eql 3 (tm 15) (kc 0)⟩])
 (.ite (tm 16)
  (.seq
  (.dops [(⟨(some 17), none, .mov (tm 0)⟩, []),
    (⟨(some 18), none, .faddr 99 (tm 2) 0 0⟩, []),
    (⟨(some 19), none, .load 3 (tm 18) none⟩, [1]),
    (⟨(some 20), none, .bin .eql 3 (tm 17) (tm 19)⟩, [0, 2]),
    (⟨(some 7), none, .mov (.const (.string ⟨#[]⟩))⟩, []),
    (⟨(some 8), none, .mov (tm 20)⟩, [3, 4, 0, 1, 2, 3, 4])])
  .ret)
  .skip))
 (.seq
 (.seq
 (.ops [⟨(some 21), none, .load 65 (tm 3) none⟩,
   ⟨(some 22), none, .len false 65 3 (tm 21)⟩,
   ⟨(some 23), none, .mov (kc 0)⟩])
 (.block 0
  (.loop
   (.seq
   (.ops [⟨(some 24), none, .bin .lss 3 (tm 23) (tm 22)⟩])
   (.seq
   (.ite (tm 24)
    .skip
    (.exit 0))
   (.seq
   (.block 1
    (.seq
    (.ops [⟨(some 25), none, .iaddr 65 (tm 21) (tm 23) 3⟩,
      ⟨(some 26), none, .load 69 (tm 25) (some 3)⟩,
      ⟨(some 10), none, .alloc 69 [(.int .u8 0), (.int .i64 0), (.bool false)]⟩,
      ⟨none, none, .store 69 (tm 10) (tm 26) 3⟩])
    (.seq
    (.ops [⟨(some 11), none, .mov (.const (.string ⟨#[]⟩))⟩,
      ⟨(some 12), none, .mov (.const (.bool false))⟩])
    (.seq
    (.seq
    (.ops [⟨(some 27), none, .faddr 69 (tm 10) 2 2⟩,
      ⟨(some 28), none, .load 4 (tm 27) none⟩])
    (.ite (tm 28)
     (.ops [⟨(some 30), none, .load 122 (tm 4) none⟩,
       ⟨(some 31), none, .mov (tm 0)⟩,
       ⟨(some 32), none, .mov (tm 1)⟩,
       ⟨(some 33), none, .bin .sub 3 (tm 32) (kc 1)⟩,
       ⟨(some 34), none, .callv (tm 30) [(tm 31), (tm 33)] 123⟩,
       ⟨(some 29), none, .mov (tm 34)⟩,
       ⟨(some 35), none, .extract (tm 29) 0⟩,
       ⟨(some 36), none, .extract (tm 29) 1⟩,
       ⟨(some 11), none, .mov (tm 35)⟩,
       ⟨(some 12), none, .mov (tm 36)⟩])
     .skip))
    (.seq
    (.seq
    (.dops [(⟨(some 37), none, .mov (tm 0)⟩, []),
      (⟨(some 38), none, .faddr 99 (tm 2) 0 0⟩, []),
      (⟨(some 39), none, .load 3 (tm 38) none⟩, [1]),
      (⟨(some 40), none, .bin .lss 3 (tm 37) (tm 39)⟩, [0, 2]),
      (⟨(some 41), none, .mov (tm 40)⟩, [3]),
      (⟨(some 42), some (41, true), .load 69 (tm 10) (some 3)⟩, [4]),
      (⟨(some 43), some (41, true), .mov (tm 0)⟩, [4]),
      (⟨(some 44), some (41, true), .faddr 99 (tm 2) 1 1⟩, [4]),
      (⟨(some 45), some (41, true), .iaddrA 97 (tm 44) (tm 43) 5 1⟩, [7, 6, 4]),
      (⟨(some 46), some (41, true), .load 3 (tm 45) none⟩, [8, 4]),
      (⟨(some 47), some (41, true), .call 78 [(tm 42), (tm 46)] 4⟩, [5, 9, 4, 4]),
      (⟨(some 48), none, .pick (tm 41) (tm 47) (.const (.bool false))⟩, [4, 10])])
    (.ite (tm 48)
     (.seq
     (.ops [⟨(some 50), none, .load 122 (tm 4) none⟩,
       ⟨(some 51), none, .mov (tm 0)⟩,
       ⟨(some 52), none, .bin .add 3 (tm 51) (kc 1)⟩,
       ⟨(some 53), none, .mov (tm 1)⟩,
       ⟨(some 54), none, .bin .sub 3 (tm 53) (kc 1)⟩,
       ⟨(some 55), none, .callv (tm 50) [(tm 52), (tm 54)] 123⟩,
       ⟨(some 49), none, .mov (tm 55)⟩,
       ⟨(some 56), none, .extract (tm 49) 0⟩,
       ⟨(some 57), none, .extract (tm 49) 1⟩,
       ⟨(some 13), none, .mov (tm 56)⟩,
       ⟨(some 14), none, .mov (tm 57)⟩])
     (.seq
     (.ops [⟨(some 58), none, .mov (tm 14)⟩,
       ⟨(some 59), none, .mov (tm 58)⟩,
       ⟨(some 60), some (59, true), .mov (tm 12)⟩,
       ⟨(some 61), some (59, true), .un .not (tm 60)⟩,
       ⟨(some 62), some (59, true), .mov (tm 61)⟩,
       ⟨(some 63), some (62, false), .load 65 (tm 3) none⟩,
       ⟨(some 64), some (62, false), .mov (tm 13)⟩,
       ⟨(some 65), some (62, false), .mov (tm 11)⟩,
       ⟨(some 66), some (62, false), .call 79 [(tm 63), (tm 64), (tm 65)] 3⟩,
       ⟨(some 67), some (62, false), .bin .lss 3 (tm 66) (kc 0)⟩,
       ⟨(some 68), some (59, true), .pick (tm 62) (.const (.bool true)) (tm 67)⟩,
       ⟨(some 69), none, .pick (tm 59) (tm 68) (.const (.bool false))⟩])
     (.ite (tm 69)
      (.ops [⟨(some 70), none, .mov (tm 13)⟩,
        ⟨(some 11), none, .mov (tm 70)⟩,
        ⟨(some 12), none, .mov (.const (.bool true))⟩])
      .skip)))
     .skip))
    (.seq
    (.ops [⟨(some 71), none, .mov (tm 12)⟩])
    (.ite (tm 71)
     (.seq
     (.ops [⟨(some 72), none, .faddr 69 (tm 10) 0 0⟩,
       ⟨(some 73), none, .load 5 (tm 72) none⟩,
       ⟨(some 74), none, .toInt .i32 5 21 (tm 73)⟩,
       ⟨(some 75), none, .conv 21 9 (tm 74)⟩,
       ⟨(some 76), none, .mov (tm 11)⟩,
       ⟨(some 77), none, .bin .add 9 (tm 75) (tm 76)⟩,
       ⟨(some 7), none, .mov (tm 77)⟩,
       ⟨(some 8), none, .mov (.const (.bool true))⟩])
     .ret)
     .skip)))))))
   (.ops [⟨(some 78), none, .bin .add 3 (tm 23) (kc 1)⟩,
     ⟨(some 23), none, .mov (tm 78)⟩])))))))
 (.seq
 (.ops [⟨(some 7), none, .mov (.const (.string ⟨#[]⟩))⟩,
   ⟨(some 8), none, .mov (.const (.bool false))⟩])
 .ret))))
theorem fn77 : FnOK Try.prog 77 79 [.tmp 7, .tmp 8] L77 := ⟨Try.f77, Try.func77, by kernel_rfl, Try.ntmps77, by rw [Try.results77], by kernel_rfl⟩
def L78 : LCode :=
 (.seq
 (.ops [⟨(some 2), none, .box 69 (tm 0)⟩,
   ⟨(some 4), none, .mov (.const (.bool false))⟩])
 (.seq
 (.ops [⟨(some 5), none, .faddr 69 (tm 2) 1 1⟩,
   ⟨(some 6), none, .load 3 (tm 5) none⟩,
   ⟨(some 7), none, .mov (tm 1)⟩,
   ⟨(some 8), none, .bin .shr 3 (tm 6) (tm 7)⟩,
   ⟨(some 9), none, .bin .and 3 (tm 8) (kc 1)⟩,
   ⟨(some 10), none, .bin .eql 3 (tm 9) (kc 1)⟩,
   ⟨(some 4), none, .mov (tm 10)⟩])
 .ret))
theorem fn78 : FnOK Try.prog 78 11 [.tmp 4] L78 := ⟨Try.f78, Try.func78, by kernel_rfl, Try.ntmps78, by rw [Try.results78], by kernel_rfl⟩
def L79 : LCode :=
 (.seq
 (.ops [⟨(some 3), none, .box 65 (tm 0)⟩,
   ⟨(some 6), none, .mov (kc 0)⟩])
 (.seq
 (.ops [⟨(some 7), none, .mov (tm 1)⟩,
   ⟨(some 8), none, .conv 9 51 (tm 7)⟩,
   ⟨(some 9), none, .mov (tm 2)⟩,
   ⟨(some 10), none, .conv 9 51 (tm 9)⟩,
   ⟨(some 11), none, .mkfn (.func 100) [] [(tm 3)]⟩,
   ⟨(some 12), none, .call 99 [(tm 8), (tm 10), (tm 11)] 3⟩,
   ⟨(some 6), none, .mov (tm 12)⟩])
 .ret))
theorem fn79 : FnOK Try.prog 79 13 [.tmp 6] L79 := ⟨Try.f79, Try.func79, by kernel_rfl, Try.ntmps79, by rw [Try.results79], by kernel_rfl⟩
def L80 : LCode :=
 (.seq
 (.ops [⟨(some 3), none, .box 69 (tm 0)⟩,
   ⟨(some 6), none, .mov (.const (.slice none 0 0))⟩])
 (.seq
 (.ops [⟨(some 7), none, .mov (.const (.slice none 0 0))⟩])
 (.seq
 (.seq
 (.ops [⟨(some 8), none, .mov (kc 0)⟩])
 (.block 0
  (.loop
   (.seq
   (.seq
   (.ops [⟨(some 10), none, .mov (tm 8)⟩,
     ⟨(some 11), none, .mov (tm 1)⟩,
     ⟨(some 12), none, .len false 32 3 (tm 11)⟩,
     ⟨(some 13), none, .bin .lss 3 (tm 10) (tm 12)⟩])
   (.ite (tm 13)
    .skip
    (.exit 0)))
   (.seq
   (.block 1
    (.seq
    (.ops [⟨(some 16), none, .mov (tm 1)⟩,
      ⟨(some 17), none, .mov (tm 8)⟩,
      ⟨(some 18), none, .iaddr 32 (tm 16) (tm 17) 1⟩,
      ⟨(some 19), none, .load 3 (tm 18) none⟩,
      ⟨(some 9), none, .mov (tm 19)⟩])
    (.seq
    (.seq
    (.ops [⟨(some 20), none, .faddr 69 (tm 3) 2 2⟩,
      ⟨(some 21), none, .load 4 (tm 20) none⟩,
      ⟨(some 22), none, .mov (tm 21)⟩,
      ⟨(some 23), some (22, true), .mov (tm 7)⟩,
      ⟨(some 24), some (22, true), .mov (tm 9)⟩,
      ⟨(some 25), some (22, true), .call 81 [(tm 23), (tm 24)] 4⟩,
      ⟨(some 26), some (22, true), .un .not (tm 25)⟩,
      ⟨(some 27), none, .pick (tm 22) (tm 26) (.const (.bool false))⟩])
    (.ite (tm 27)
     (.ops [⟨(some 28), none, .mov (tm 7)⟩,
       ⟨(some 29), none, .mov (tm 9)⟩,
       ⟨(some 30), none, .bslice 32 1 [(0, (tm 29))] 3 1 [(.int .i64 0)]⟩,
       ⟨(some 31), none, .append 32 32 (tm 28) (tm 30) 3 1 8 [(.int .i64 0)]⟩,
       ⟨(some 7), none, .mov (tm 31)⟩])
     .skip))
    (.seq
    (.dops [(⟨(some 32), none, .mov (tm 9)⟩, []),
      (⟨(some 33), none, .mov (tm 2)⟩, []),
      (⟨(some 34), none, .len false 32 3 (tm 33)⟩, [1]),
      (⟨(some 35), none, .bin .lss 3 (tm 32) (tm 34)⟩, [0, 2]),
      (⟨(some 36), none, .mov (tm 35)⟩, [3]),
      (⟨(some 37), some (36, true), .faddr 69 (tm 3) 1 1⟩, [4]),
      (⟨(some 38), some (36, true), .load 3 (tm 37) none⟩, [5, 4]),
      (⟨(some 39), some (36, true), .mov (tm 2)⟩, [4]),
      (⟨(some 40), some (36, true), .mov (tm 9)⟩, [4]),
      (⟨(some 41), some (36, true), .iaddr 32 (tm 39) (tm 40) 1⟩, [7, 8, 4]),
      (⟨(some 42), some (36, true), .load 3 (tm 41) none⟩, [9, 4]),
      (⟨(some 43), some (36, true), .call 41 [(tm 38), (tm 42)] 4⟩, [6, 10, 4, 4]),
      (⟨(some 44), none, .pick (tm 36) (tm 43) (.const (.bool false))⟩, [4, 11]),
      (⟨(some 45), none, .mov (tm 44)⟩, [12, 11]),
      (⟨(some 46), some (45, true), .mov (tm 7)⟩, [13]),
      (⟨(some 47), some (45, true), .mov (tm 9)⟩, [13]),
      (⟨(some 48), some (45, true), .bin .add 3 (tm 47) (kc 1)⟩, [15, 13]),
      (⟨(some 49), some (45, true), .call 81 [(tm 46), (tm 48)] 4⟩, [14, 16, 13, 13]),
      (⟨(some 50), some (45, true), .un .not (tm 49)⟩, [17, 13]),
      (⟨(some 51), none, .pick (tm 45) (tm 50) (.const (.bool false))⟩, [13, 18])])
    (.ite (tm 51)
     (.ops [⟨(some 52), none, .mov (tm 7)⟩,
       ⟨(some 53), none, .mov (tm 9)⟩,
       ⟨(some 54), none, .bin .add 3 (tm 53) (kc 1)⟩,
       ⟨(some 55), none, .bslice 32 1 [(0, (tm 54))] 3 1 [(.int .i64 0)]⟩,
       ⟨(some 56), none, .append 32 32 (tm 52) (tm 55) 3 1 8 [(.int .i64 0)]⟩,
       ⟨(some 7), none, .mov (tm 56)⟩])
     .skip)))))
   (.ops [⟨(some 14), none, .mov (tm 8)⟩,
     ⟨(some 15), none, .bin .add 3 (tm 14) (kc 1)⟩,
     ⟨(some 8), none, .mov (tm 15)⟩]))))))
 (.seq
 (.ops [⟨(some 57), none, .mov (tm 7)⟩,
   ⟨(some 6), none, .mov (tm 57)⟩])
 .ret))))
theorem fn80 : FnOK Try.prog 80 58 [.tmp 6] L80 := ⟨Try.f80, Try.func80, by kernel_rfl, Try.ntmps80, by rw [Try.results80], by kernel_rfl⟩
def L81 : LCode :=
 (.seq
 (.ops [⟨(some 4), none, .mov (.const (.bool false))⟩])
 (.seq
 (.ops [⟨(some 5), none, .mov (.const (.bool false))⟩])
 (.seq
 (.seq
 (.ops [⟨(some 6), none, .mov (kc 0)⟩])
 (.block 0
  (.loop
   (.seq
   (.seq
   (.ops [⟨(some 7), none, .mov (tm 6)⟩,
     ⟨(some 8), none, .mov (tm 0)⟩,
     ⟨(some 9), none, .len false 32 3 (tm 8)⟩,
     ⟨(some 10), none, .bin .lss 3 (tm 7) (tm 9)⟩])
   (.ite (tm 10)
    .skip
    (.exit 0)))
   (.seq
   (.block 1
    (.ops [⟨(some 13), none, .mov (tm 5)⟩,
      ⟨(some 14), none, .mov (tm 13)⟩,
      ⟨(some 15), some (14, false), .mov (tm 0)⟩,
      ⟨(some 16), some (14, false), .mov (tm 6)⟩,
      ⟨(some 17), some (14, false), .iaddr 32 (tm 15) (tm 16) 1⟩,
      ⟨(some 18), some (14, false), .load 3 (tm 17) none⟩,
      ⟨(some 19), some (14, false), .mov (tm 1)⟩,
      ⟨(some 20), some (14, false), .bin .eql 3 (tm 18) (tm 19)⟩,
      ⟨(some 21), none, .pick (tm 14) (.const (.bool true)) (tm 20)⟩,
      ⟨(some 5), none, .mov (tm 21)⟩]))
   (.ops [⟨(some 11), none, .mov (tm 6)⟩,
     ⟨(some 12), none, .bin .add 3 (tm 11) (kc 1)⟩,
     ⟨(some 6), none, .mov (tm 12)⟩]))))))
 (.seq
 (.ops [⟨(some 22), none, .mov (tm 5)⟩,
   ⟨(some 4), none, .mov (tm 22)⟩])
 .ret))))
theorem fn81 : FnOK Try.prog 81 23 [.tmp 4] L81 := ⟨Try.f81, Try.func81, by kernel_rfl, Try.ntmps81, by rw [Try.results81], by kernel_rfl⟩
def L82 : LCode :=
 (.seq
 (.ops [⟨(some 6), none, .alloc 69 [(.int .u8 0), (.int .i64 0), (.bool false)]⟩])
 (.seq
 (.ops [⟨(some 7), none, .mov (tm 0)⟩,
   ⟨(some 8), none, .mov (tm 1)⟩,
   ⟨(some 9), none, .mov (tm 2)⟩,
   ⟨(some 10), none, .build 69 [(0, (tm 7)), (1, (tm 8)), (2, (tm 9))] [(.int .u8 0), (.int .i64 0), (.bool false)] [(0, 1, (tm 7)), (1, 1, (tm 8)), (2, 1, (tm 9))]⟩,
   ⟨none, none, .store 69 (tm 6) (tm 10) 3⟩])
 .ret))
theorem fn82 : FnOK Try.prog 82 11 [.cell 6 69] L82 := ⟨Try.f82, Try.func82, by kernel_rfl, Try.ntmps82, by rw [Try.results82], by kernel_rfl⟩
def L84 : LCode :=
 (.seq
 (.ops [⟨(some 4), none, .mov (.const (.bool false))⟩])
 (.seq
 (.ops [⟨(some 5), none, .mov (tm 0)⟩,
   ⟨(some 6), none, .mov (tm 1)⟩,
   ⟨(some 7), none, .call 101 [(tm 5), (tm 6)] 3⟩,
   ⟨(some 8), none, .bin .geq 3 (tm 7) (kc 0)⟩,
   ⟨(some 4), none, .mov (tm 8)⟩])
 .ret))
theorem fn84 : FnOK Try.prog 84 9 [.tmp 4] L84 := ⟨Try.f84, Try.func84, by kernel_rfl, Try.ntmps84, by rw [Try.results84], by kernel_rfl⟩
def L85 : LCode :=
 (.seq
 (.ops [⟨(some 4), none, .mov (.const (.bool false))⟩])
 (.seq
 (.ops [⟨(some 5), none, .mov (tm 0)⟩,
   ⟨(some 6), none, .load 3 (tm 1) none⟩,
   ⟨(some 7), none, .bin .lss 3 (tm 5) (tm 6)⟩,
   ⟨(some 8), none, .mov (tm 7)⟩,
   ⟨(some 9), some (8, false), .mov (tm 0)⟩,
   ⟨(some 10), some (8, false), .load 3 (tm 2) none⟩,
   ⟨(some 11), some (8, false), .bin .gtr 3 (tm 9) (tm 10)⟩,
   ⟨(some 12), none, .pick (tm 8) (.const (.bool true)) (tm 11)⟩,
   ⟨(some 4), none, .mov (tm 12)⟩])
 .ret))
theorem fn85 : FnOK Try.prog 85 13 [.tmp 4] L85 := ⟨Try.f85, Try.func85, by kernel_rfl, Try.ntmps85, by rw [Try.results85], by kernel_rfl⟩
def L86 : LCode :=
 (.seq
 (.ops [⟨(some 4), none, .mov (kc 0)⟩])
 (.seq
 (.seq
 (.ops [⟨(some 6), none, .mov (tm 0)⟩,
   ⟨(some 7), none, .len false 22 3 (tm 6)⟩,
   ⟨(some 8), none, .mov (kc 0)⟩])
 (.block 0
  (.loop
   (.seq
   (.ops [⟨(some 9), none, .bin .lss 3 (tm 8) (tm 7)⟩])
   (.seq
   (.ite (tm 9)
    .skip
    (.exit 0))
   (.seq
   (.block 1
    (.seq
    (.ops [⟨(some 10), none, .mov (tm 8)⟩,
      ⟨(some 5), none, .mov (tm 10)⟩])
    (.seq
    (.ops [⟨(some 11), none, .mov (tm 1)⟩,
      ⟨(some 12), none, .mov (tm 0)⟩,
      ⟨(some 13), none, .mov (tm 5)⟩,
      ⟨(some 14), none, .iaddr 22 (tm 12) (tm 13) 2⟩,
      ⟨(some 15), none, .load 67 (tm 14) (some 2)⟩,
      ⟨(some 16), none, .callv (tm 11) [(tm 15)] 4⟩])
    (.ite (tm 16)
     (.seq
     (.ops [⟨(some 17), none, .mov (tm 5)⟩,
       ⟨(some 4), none, .mov (tm 17)⟩])
     .ret)
     .skip))))
   (.ops [⟨(some 18), none, .bin .add 3 (tm 8) (kc 1)⟩,
     ⟨(some 8), none, .mov (tm 18)⟩])))))))
 (.seq
 (.ops [⟨(some 4), none, .mov (kc (-1))⟩])
 .ret)))
theorem fn86 : FnOK Try.prog 86 19 [.tmp 4] L86 := ⟨Try.f86, Try.func86, by kernel_rfl, Try.ntmps86, by rw [Try.results86], by kernel_rfl⟩
def L87 : LCode :=
 (.seq
 (.ops [⟨(some 4), none, .mov (.const (.bool false))⟩])
 (.seq
 (.ops [⟨(some 5), none, .mov (tm 0)⟩,
   ⟨(some 6), none, .mov (tm 1)⟩,
   ⟨(some 7), none, .iaddr 65 (tm 5) (tm 6) 3⟩,
   ⟨(some 8), none, .faddr 69 (tm 7) 0 0⟩,
   ⟨(some 9), none, .load 5 (tm 8) none⟩,
   ⟨(some 10), none, .toInt .i64 5 3 (tm 9)⟩,
   ⟨(some 11), none, .bslice 32 1 [(0, (tm 10))] 3 1 [(.int .i64 0)]⟩,
   ⟨(some 12), none, .call 44 [(kc 97), (kc 122), (tm 11)] 4⟩,
   ⟨(some 4), none, .mov (tm 12)⟩])
 .ret))
theorem fn87 : FnOK Try.prog 87 13 [.tmp 4] L87 := ⟨Try.f87, Try.func87, by kernel_rfl, Try.ntmps87, by rw [Try.results87], by kernel_rfl⟩
def L88 : LCode :=
 (.seq
 (.ops [⟨(some 4), none, .mov (.const (.bool false))⟩])
 (.seq
 (.dops [(⟨(some 5), none, .mov (tm 0)⟩, []),
   (⟨(some 6), none, .mov (tm 1)⟩, []),
   (⟨(some 7), none, .sliceE 65 (tm 5) none (some (tm 6)) none 3⟩, [0, 1]),
   (⟨(some 8), none, .mov (tm 0)⟩, []),
   (⟨(some 9), none, .mov (tm 1)⟩, []),
   (⟨(some 10), none, .iaddr 65 (tm 8) (tm 9) 3⟩, [3, 4]),
   (⟨(some 11), none, .faddr 69 (tm 10) 0 0⟩, [5]),
   (⟨(some 12), none, .load 5 (tm 11) none⟩, [6]),
   (⟨(some 13), none, .call 54 [(tm 7), (tm 12)] 3⟩, [2, 7]),
   (⟨(some 14), none, .bin .geq 3 (tm 13) (kc 0)⟩, [8]),
   (⟨(some 4), none, .mov (tm 14)⟩, [9, 8, 0, 1, 2, 3, 4, 5, 6, 7, 8, 9])])
 .ret))
theorem fn88 : FnOK Try.prog 88 15 [.tmp 4] L88 := ⟨Try.f88, Try.func88, by kernel_rfl, Try.ntmps88, by rw [Try.results88], by kernel_rfl⟩
def L89 : LCode :=
 (.seq
 (.ops [⟨(some 5), none, .mov (.const (.bool false))⟩])
 (.seq
 (.dops [(⟨(some 6), none, .load 3 (tm 2) none⟩, []),
   (⟨(some 7), none, .bin .shl 3 (kc 1) (tm 6)⟩, [0]),
   (⟨(some 8), none, .bin .sub 3 (tm 7) (kc 1)⟩, [1]),
   (⟨(some 9), none, .mov (tm 0)⟩, []),
   (⟨(some 10), none, .mov (tm 1)⟩, []),
   (⟨(some 11), none, .iaddr 65 (tm 9) (tm 10) 3⟩, [3, 4]),
   (⟨(some 12), none, .faddr 69 (tm 11) 1 1⟩, [5]),
   (⟨(some 13), none, .load 3 (tm 12) none⟩, [6]),
   (⟨(some 14), none, .bslice 32 1 [(0, (tm 13))] 3 1 [(.int .i64 0)]⟩, [7]),
   (⟨(some 15), none, .call 44 [(kc 0), (tm 8), (tm 14)] 4⟩, [2, 8]),
   (⟨(some 5), none, .mov (tm 15)⟩, [9, 9, 0, 1, 2, 3, 4, 5, 6, 7, 8, 9])])
 .ret))
theorem fn89 : FnOK Try.prog 89 16 [.tmp 5] L89 := ⟨Try.f89, Try.func89, by kernel_rfl, Try.ntmps89, by rw [Try.results89], by kernel_rfl⟩
def L90 : LCode :=
 (.seq
 (.ops [⟨(some 4), none, .mov (.const (.bool false))⟩])
 (.seq
 (.ops [⟨(some 5), none, .mov (tm 0)⟩,
   ⟨(some 6), none, .mov (tm 1)⟩,
   ⟨(some 7), none, .iaddr 65 (tm 5) (tm 6) 3⟩,
   ⟨(some 8), none, .faddr 69 (tm 7) 1 1⟩,
   ⟨(some 9), none, .load 3 (tm 8) none⟩,
   ⟨(some 10), none, .bin .eql 3 (tm 9) (kc 0)⟩,
   ⟨(some 11), none, .mov (tm 10)⟩,
   ⟨(some 12), some (11, true), .mov (tm 0)⟩,
   ⟨(some 13), some (11, true), .mov (tm 1)⟩,
   ⟨(some 14), some (11, true), .iaddr 65 (tm 12) (tm 13) 3⟩,
   ⟨(some 15), some (11, true), .faddr 69 (tm 14) 2 2⟩,
   ⟨(some 16), some (11, true), .load 4 (tm 15) none⟩,
   ⟨(some 17), some (11, true), .un .not (tm 16)⟩,
   ⟨(some 18), none, .pick (tm 11) (tm 17) (.const (.bool false))⟩,
   ⟨(some 4), none, .mov (tm 18)⟩])
 .ret))
theorem fn90 : FnOK Try.prog 90 19 [.tmp 4] L90 := ⟨Try.f90, Try.func90, by kernel_rfl, Try.ntmps90, by rw [Try.results90], by kernel_rfl⟩
def L91 : LCode :=
 (.seq
 (.ops [⟨(some 4), none, .mov (kc 0)⟩])
 (.seq
 (.seq
 (.ops [⟨(some 6), none, .mov (tm 0)⟩,
   ⟨(some 7), none, .len false 65 3 (tm 6)⟩,
   ⟨(some 8), none, .mov (kc 0)⟩])
 (.block 0
  (.loop
   (.seq
   (.ops [⟨(some 9), none, .bin .lss 3 (tm 8) (tm 7)⟩])
   (.seq
   (.ite (tm 9)
    .skip
    (.exit 0))
   (.seq
   (.block 1
    (.seq
    (.ops [⟨(some 10), none, .mov (tm 8)⟩,
      ⟨(some 5), none, .mov (tm 10)⟩])
    (.seq
    (.ops [⟨(some 11), none, .mov (tm 1)⟩,
      ⟨(some 12), none, .mov (tm 0)⟩,
      ⟨(some 13), none, .mov (tm 5)⟩,
      ⟨(some 14), none, .iaddr 65 (tm 12) (tm 13) 3⟩,
      ⟨(some 15), none, .load 69 (tm 14) (some 3)⟩,
      ⟨(some 16), none, .callv (tm 11) [(tm 15)] 4⟩])
    (.ite (tm 16)
     (.seq
     (.ops [⟨(some 17), none, .mov (tm 5)⟩,
       ⟨(some 4), none, .mov (tm 17)⟩])
     .ret)
     .skip))))
   (.ops [⟨(some 18), none, .bin .add 3 (tm 8) (kc 1)⟩,
     ⟨(some 8), none, .mov (tm 18)⟩])))))))
 (.seq
 (.ops [⟨(some 4), none, .mov (kc (-1))⟩])
 .ret)))
theorem fn91 : FnOK Try.prog 91 19 [.tmp 4] L91 := ⟨Try.f91, Try.func91, by kernel_rfl, Try.ntmps91, by rw [Try.results91], by kernel_rfl⟩
def L92 : LCode :=
 (.seq
 (.ops [⟨(some 2), none, .box 69 (tm 0)⟩,
   ⟨(some 3), none, .mov (.const (.bool false))⟩])
 (.seq
 (.ops [⟨(some 4), none, .faddr 69 (tm 2) 0 0⟩,
   ⟨(some 5), none, .load 5 (tm 4) none⟩,
   ⟨(some 6), none, .load 5 (tm 1) none⟩,
   ⟨(some 7), none, .bin .eql 5 (tm 5) (tm 6)⟩,
   ⟨(some 3), none, .mov (tm 7)⟩])
 .ret))
theorem fn92 : FnOK Try.prog 92 8 [.tmp 3] L92 := ⟨Try.f92, Try.func92, by kernel_rfl, Try.ntmps92, by rw [Try.results92], by kernel_rfl⟩
def L93 : LCode :=
 (.seq
 (.ops [⟨(some 4), none, .mov (kc 0)⟩])
 (.seq
 (.ops [⟨(some 5), none, .mov (kc 0)⟩])
 (.seq
 (.block 0
  (.loop
   (.seq
   (.seq
   (.ops [⟨(some 6), none, .mov (tm 5)⟩,
     ⟨(some 7), none, .mov (tm 0)⟩,
     ⟨(some 8), none, .len false 90 3 (tm 7)⟩,
     ⟨(some 9), none, .bin .lss 3 (tm 6) (tm 8)⟩,
     ⟨(some 10), none, .mov (tm 9)⟩,
     ⟨(some 11), some (10, true), .mov (tm 0)⟩,
     ⟨(some 12), some (10, true), .mov (tm 5)⟩,
     ⟨(some 13), some (10, true), .iaddr 90 (tm 11) (tm 12) 1⟩,
     ⟨(some 14), some (10, true), .load 9 (tm 13) none⟩,
     ⟨(some 15), some (10, true), .mov (tm 1)⟩,
     ⟨(some 16), some (10, true), .bin .neq 9 (tm 14) (tm 15)⟩,
     ⟨(some 17), none, .pick (tm 10) (tm 16) (.const (.bool false))⟩])
   (.ite (tm 17)
    .skip
    (.exit 0)))
   (.block 1
    (.ops [⟨(some 18), none, .mov (tm 5)⟩,
      ⟨(some 19), none, .bin .add 3 (tm 18) (kc 1)⟩,
      ⟨(some 5), none, .mov (tm 19)⟩])))))
 (.seq
 (.seq
 (.ops [⟨(some 20), none, .mov (tm 5)⟩,
   ⟨(some 21), none, .mov (tm 0)⟩,
   ⟨(some 22), none, .len false 90 3 (tm 21)⟩,
   ⟨(some 23), none, .bin .eql 3 (tm 20) (tm 22)⟩])
 (.ite (tm 23)
  (.seq
  (.ops [⟨(some 4), none, .mov (kc (-1))⟩])
  .ret)
  .skip))
 (.seq
 (.ops [⟨(some 24), none, .mov (tm 5)⟩,
   ⟨(some 4), none, .mov (tm 24)⟩])
 .ret)))))
theorem fn93 : FnOK Try.prog 93 25 [.tmp 4] L93 := ⟨Try.f93, Try.func93, by kernel_rfl, Try.ntmps93, by rw [Try.results93], by kernel_rfl⟩
def L94 : LCode :=
 (.seq
 (.ops [⟨(some 2), none, .mov (kc 0)⟩])
 (.seq
 (.ops [⟨(some 3), none, .mov (kc 0)⟩])
 (.seq
 (.seq
 (.ops [⟨(some 4), none, .mov (kc 0)⟩])
 (.block 0
  (.loop
   (.seq
   (.seq
   (.ops [⟨(some 5), none, .mov (tm 4)⟩,
     ⟨(some 6), none, .mov (tm 0)⟩,
     ⟨(some 7), none, .bin .lss 3 (tm 5) (tm 6)⟩])
   (.ite (tm 7)
    .skip
    (.exit 0)))
   (.seq
   (.block 1
    (.ops [⟨(some 10), none, .mov (tm 3)⟩,
      ⟨(some 11), none, .bin .mul 3 (kc 2) (tm 10)⟩,
      ⟨(some 12), none, .bin .add 3 (tm 11) (kc 1)⟩,
      ⟨(some 3), none, .mov (tm 12)⟩]))
   (.ops [⟨(some 8), none, .mov (tm 4)⟩,
     ⟨(some 9), none, .bin .add 3 (tm 8) (kc 1)⟩,
     ⟨(some 4), none, .mov (tm 9)⟩]))))))
 (.seq
 (.ops [⟨(some 13), none, .mov (tm 3)⟩,
   ⟨(some 2), none, .mov (tm 13)⟩])
 .ret))))
theorem fn94 : FnOK Try.prog 94 14 [.tmp 2] L94 := ⟨Try.f94, Try.func94, by kernel_rfl, Try.ntmps94, by rw [Try.results94], by kernel_rfl⟩
def L95 : LCode :=
 (.seq
 (.ops [⟨(some 2), none, .box 67 (tm 0)⟩,
   ⟨(some 4), none, .mov (kc 0)⟩])
 (.seq
 (.seq
 (.ops [⟨(some 5), none, .mov (kc 0)⟩])
 (.block 0
  (.loop
   (.seq
   (.seq
   (.ops [⟨(some 6), none, .mov (tm 5)⟩,
     ⟨(some 7), none, .faddr 67 (tm 2) 1 1⟩,
     ⟨(some 8), none, .load 65 (tm 7) none⟩,
     ⟨(some 9), none, .len false 65 3 (tm 8)⟩,
     ⟨(some 10), none, .bin .lss 3 (tm 6) (tm 9)⟩])
   (.ite (tm 10)
    .skip
    (.exit 0)))
   (.seq
   (.block 1
    (.seq
    (.ops [⟨(some 13), none, .faddr 67 (tm 2) 1 1⟩,
      ⟨(some 14), none, .load 65 (tm 13) none⟩,
      ⟨(some 15), none, .mov (tm 5)⟩,
      ⟨(some 16), none, .iaddr 65 (tm 14) (tm 15) 3⟩,
      ⟨(some 17), none, .faddr 69 (tm 16) 0 0⟩,
      ⟨(some 18), none, .load 5 (tm 17) none⟩,
      ⟨(some 19), none, .mov (tm 1)⟩,
      ⟨(some 20), none, .bin .eql 5 (tm 18) (tm 19)⟩])
    (.ite (tm 20)
     (.seq
     (.ops [⟨(some 21), none, .mov (tm 5)⟩,
       ⟨(some 4), none, .mov (tm 21)⟩])
     .ret)
     .skip)))
   (.ops [⟨(some 11), none, .mov (tm 5)⟩,
     ⟨(some 12), none, .bin .add 3 (tm 11) (kc 1)⟩,
     ⟨(some 5), none, .mov (tm 12)⟩]))))))
 (.seq
 (.ops [⟨(some 4), none, .mov (kc (-1))⟩])
 .ret)))
theorem fn95 : FnOK Try.prog 95 22 [.tmp 4] L95 := ⟨Try.f95, Try.func95, by kernel_rfl, Try.ntmps95, by rw [Try.results95], by kernel_rfl⟩
def L96 : LCode :=
 (.seq
 (.ops [⟨(some 1), none, .box 25 (tm 0)⟩,
   ⟨(some 2), none, .mov (.const (.pointer none))⟩])
 (.seq
 (.ops [⟨(some 6), none, .load 25 (tm 1) (some 3)⟩,
   ⟨(some 7), none, .mmap 110⟩,
   ⟨(some 8), none, .build 112 [(0, (tm 6)), (1, (tm 7))] [(.int .i64 0), (.slice none 0 0), (.slice none 0 0), (.map none)] [(0, 3, (tm 6)), (3, 1, (tm 7))]⟩,
   ⟨(some 9), none, .box 112 (tm 8)⟩,
   ⟨(some 3), none, .alloc 94 [(.pointer none)]⟩,
   ⟨none, none, .store 94 (tm 3) (tm 9) 1⟩])
 (.seq
 (.seq
 (.ops [⟨(some 10), none, .faddr 25 (tm 1) 2 2⟩,
   ⟨(some 11), none, .load 23 (tm 10) none⟩,
   ⟨(some 12), none, .len false 23 3 (tm 11)⟩,
   ⟨(some 13), none, .mov (kc 0)⟩])
 (.block 0
  (.loop
   (.seq
   (.ops [⟨(some 14), none, .bin .lss 3 (tm 13) (tm 12)⟩])
   (.seq
   (.ite (tm 14)
    .skip
    (.exit 0))
   (.seq
   (.block 1
    (.seq
    (.ops [⟨(some 15), none, .mov (tm 13)⟩,
      ⟨(some 4), none, .alloc 3 [(.int .i64 0)]⟩,
      ⟨none, none, .store 3 (tm 4) (tm 15) 1⟩])
    (.seq
    (.ops [⟨(some 16), none, .load 94 (tm 3) none⟩,
      ⟨(some 17), none, .load 3 (tm 4) none⟩,
      ⟨(some 18), none, .call 102 [(tm 16), (tm 17)] 146⟩])
    (.block 2
     (.rfun (tm 18) [19]
      (.ops [⟨(some 5), none, .alloc 99 [(.int .i64 0), (.int .i64 0), (.int .i64 0), (.int .i64 0), (.int .i64 0), (.int .i64 0)]⟩,
        ⟨none, none, .store 99 (tm 5) (tm 19) 6⟩])
      (.block 3
       (.dops [(⟨(some 20), none, .load 94 (tm 3) none⟩, []),
         (⟨(some 21), none, .nilck (tm 20)⟩, [0]),
         (⟨(some 22), none, .faddr 112 (tm 21) 1 3⟩, [1]),
         (⟨(some 23), none, .load 110 (tm 22) none⟩, [2]),
         (⟨(some 24), none, .load 99 (tm 5) (some 6)⟩, []),
         (⟨(some 25), none, .lookup 110 (tm 23) (tm 24) false 99 3 [(.int .i64 0)]⟩, [3, 4]),
         (⟨(some 26), none, .load 3 (tm 4) none⟩, []),
         (⟨(some 27), none, .bin .shl 3 (kc 1) (tm 26)⟩, [6]),
         (⟨(some 28), none, .bin .or 3 (tm 25) (tm 27)⟩, [5, 7]),
         (⟨(some 29), none, .mapent 110 (tm 23) (tm 24) 99 3 [(.int .i64 0)]⟩, [3, 4, 0, 1, 2, 3, 4, 6, 7]),
         (⟨(some 30), none, .extract (tm 29) 1⟩, [9]),
         (⟨none, none, .entst 110 (tm 23) (tm 30) (tm 28)⟩, [3, 10, 8, 9, 0, 1, 2, 3, 4, 5, 6, 7, 8, 9, 10])])))))))
   (.ops [⟨(some 31), none, .bin .add 3 (tm 13) (kc 1)⟩,
     ⟨(some 13), none, .mov (tm 31)⟩])))))))
 (.seq
 (.ops [⟨(some 32), none, .load 94 (tm 3) none⟩,
   ⟨(some 2), none, .mov (tm 32)⟩])
 .ret))))
theorem fn96 : FnOK Try.prog 96 33 [.tmp 2] L96 := ⟨Try.f96, Try.func96, by kernel_rfl, Try.ntmps96, by rw [Try.results96], by kernel_rfl⟩
def L97 : LCode :=
 (.seq
 (.ops [⟨(some 2), none, .box 99 (tm 0)⟩,
   ⟨(some 3), none, .box 99 (tm 1)⟩,
   ⟨(some 4), none, .mov (.const (.bool false))⟩])
 (.seq
 (.seq
 (.ops [⟨(some 5), none, .faddr 99 (tm 2) 1 1⟩,
   ⟨(some 6), none, .load 97 (tm 5) (some 5)⟩,
   ⟨(some 7), none, .faddr 99 (tm 3) 1 1⟩,
   ⟨(some 8), none, .load 97 (tm 7) (some 5)⟩,
   ⟨(some 9), none, .eqT false 97 (tm 6) (tm 8)⟩,
   ⟨(some 10), none, .mov (tm 9)⟩,
   ⟨(some 11), some (10, false), .faddr 99 (tm 2) 0 0⟩,
   ⟨(some 12), some (10, false), .load 3 (tm 11) none⟩,
   ⟨(some 13), some (10, false), .faddr 99 (tm 3) 0 0⟩,
   ⟨(some 14), some (10, false), .load 3 (tm 13) none⟩,
   ⟨(some 15), some (10, false), .bin .neq 3 (tm 12) (tm 14)⟩,
   ⟨(some 16), none, .pick (tm 10) (.const (.bool true)) (tm 15)⟩])
 (.ite (tm 16)
  (.seq
  (.ops [⟨(some 17), none, .faddr 99 (tm 2) 0 0⟩,
    ⟨(some 18), none, .load 3 (tm 17) none⟩,
    ⟨(some 19), none, .faddr 99 (tm 3) 0 0⟩,
    ⟨(some 20), none, .load 3 (tm 19) none⟩,
    ⟨(some 21), none, .bin .lss 3 (tm 18) (tm 20)⟩,
    ⟨(some 4), none, .mov (tm 21)⟩])
  .ret)
  .skip))
 (.seq
 (.dops [(⟨(some 22), none, .faddr 99 (tm 2) 1 1⟩, []),
   (⟨(some 23), none, .sliceA 97 (tm 22) none none none 5 1⟩, [0]),
   (⟨(some 24), none, .faddr 99 (tm 3) 1 1⟩, []),
   (⟨(some 25), none, .sliceA 97 (tm 24) none none none 5 1⟩, [2]),
   (⟨(some 26), none, .call 75 [(tm 23), (tm 25)] 3⟩, [1, 3]),
   (⟨(some 27), none, .bin .lss 3 (tm 26) (kc 0)⟩, [4]),
   (⟨(some 4), none, .mov (tm 27)⟩, [5, 4, 0, 1, 2, 3, 4, 5])])
 .ret)))
theorem fn97 : FnOK Try.prog 97 28 [.tmp 4] L97 := ⟨Try.f97, Try.func97, by kernel_rfl, Try.ntmps97, by rw [Try.results97], by kernel_rfl⟩
def L98 : LCode :=
 (.seq
 (.ops [⟨(some 4), none, .mov (kc 0)⟩])
 (.seq
 (.ops [⟨(some 7), none, .mov (tm 0)⟩,
   ⟨(some 8), none, .call 103 [(tm 7)] 4⟩,
   ⟨(some 5), none, .mov (tm 8)⟩])
 (.seq
 (.ops [⟨(some 9), none, .mov (tm 1)⟩,
   ⟨(some 10), none, .call 103 [(tm 9)] 4⟩,
   ⟨(some 6), none, .mov (tm 10)⟩])
 (.seq
 (.seq
 (.ops [⟨(some 11), none, .mov (tm 5)⟩])
 (.ite (tm 11)
  (.seq
  (.seq
  (.ops [⟨(some 12), none, .mov (tm 6)⟩])
  (.ite (tm 12)
   (.seq
   (.ops [⟨(some 4), none, .mov (kc 0)⟩])
   .ret)
   .skip))
  (.seq
  (.ops [⟨(some 4), none, .mov (kc (-1))⟩])
  .ret))
  .skip))
 (.seq
 (.seq
 (.ops [⟨(some 13), none, .mov (tm 6)⟩])
 (.ite (tm 13)
  (.seq
  (.ops [⟨(some 4), none, .mov (kc 1)⟩])
  .ret)
  .skip))
 (.seq
 (.seq
 (.ops [⟨(some 14), none, .mov (tm 0)⟩,
   ⟨(some 15), none, .mov (tm 1)⟩,
   ⟨(some 16), none, .bin .lss 3 (tm 14) (tm 15)⟩])
 (.ite (tm 16)
  (.seq
  (.ops [⟨(some 4), none, .mov (kc (-1))⟩])
  .ret)
  .skip))
 (.seq
 (.seq
 (.ops [⟨(some 17), none, .mov (tm 0)⟩,
   ⟨(some 18), none, .mov (tm 1)⟩,
   ⟨(some 19), none, .bin .gtr 3 (tm 17) (tm 18)⟩])
 (.ite (tm 19)
  (.seq
  (.ops [⟨(some 4), none, .mov (kc 1)⟩])
  .ret)
  .skip))
 (.seq
 (.ops [⟨(some 4), none, .mov (kc 0)⟩])
 .ret))))))))
theorem fn98 : FnOK Try.prog 98 20 [.tmp 4] L98 := ⟨Try.f98, Try.func98, by kernel_rfl, Try.ntmps98, by rw [Try.results98], by kernel_rfl⟩
def L99 : LCode :=
 (.seq
 (.ops [⟨(some 6), none, .mov (kc 0)⟩])
 (.seq
 (.seq
 (.ops [⟨(some 11), none, .mov (tm 0)⟩,
   ⟨(some 12), none, .len false 51 3 (tm 11)⟩,
   ⟨(some 13), none, .mov (kc 0)⟩])
 (.block 0
  (.loop
   (.seq
   (.ops [⟨(some 14), none, .bin .lss 3 (tm 13) (tm 12)⟩])
   (.seq
   (.ite (tm 14)
    .skip
    (.exit 0))
   (.seq
   (.block 1
    (.seq
    (.ops [⟨(some 15), none, .mov (tm 13)⟩,
      ⟨(some 16), none, .iaddr 51 (tm 11) (tm 13) 1⟩,
      ⟨(some 17), none, .load 5 (tm 16) none⟩,
      ⟨(some 7), none, .mov (tm 15)⟩,
      ⟨(some 8), none, .mov (tm 17)⟩])
    (.seq
    (.seq
    (.ops [⟨(some 18), none, .mov (tm 7)⟩,
      ⟨(some 19), none, .mov (tm 1)⟩,
      ⟨(some 20), none, .len false 51 3 (tm 19)⟩,
      ⟨(some 21), none, .bin .geq 3 (tm 18) (tm 20)⟩])
    (.ite (tm 21)
     (.seq
     (.ops [⟨(some 6), none, .mov (kc 1)⟩])
     .ret)
     .skip))
    (.seq
    (.ops [⟨(some 22), none, .mov (tm 1)⟩,
      ⟨(some 23), none, .mov (tm 7)⟩,
      ⟨(some 24), none, .iaddr 51 (tm 22) (tm 23) 1⟩,
      ⟨(some 25), none, .load 5 (tm 24) none⟩,
      ⟨(some 9), none, .mov (tm 25)⟩])
    (.seq
    (.ops [⟨(some 26), none, .mov (tm 2)⟩,
      ⟨(some 27), none, .mov (tm 8)⟩,
      ⟨(some 28), none, .mov (tm 9)⟩,
      ⟨(some 29), none, .callv (tm 26) [(tm 27), (tm 28)] 3⟩,
      ⟨(some 10), none, .mov (tm 29)⟩])
    (.seq
    (.ops [⟨(some 30), none, .mov (tm 10)⟩,
      ⟨(some 31), none, .bin .neq 3 (tm 30) (kc 0)⟩])
    (.ite (tm 31)
     (.seq
     (.ops [⟨(some 32), none, .mov (tm 10)⟩,
       ⟨(some 6), none, .mov (tm 32)⟩])
     .ret)
     .skip)))))))
   (.ops [⟨(some 33), none, .bin .add 3 (tm 13) (kc 1)⟩,
     ⟨(some 13), none, .mov (tm 33)⟩])))))))
 (.seq
 (.seq
 (.ops [⟨(some 34), none, .mov (tm 0)⟩,
   ⟨(some 35), none, .len false 51 3 (tm 34)⟩,
   ⟨(some 36), none, .mov (tm 1)⟩,
   ⟨(some 37), none, .len false 51 3 (tm 36)⟩,
   ⟨(some 38), none, .bin .lss 3 (tm 35) (tm 37)⟩])
 (.ite (tm 38)
  (.seq
  (.ops [⟨(some 6), none, .mov (kc (-1))⟩])
  .ret)
  .skip))
 (.seq
 (.ops [⟨(some 6), none, .mov (kc 0)⟩])
 .ret))))
theorem fn99 : FnOK Try.prog 99 39 [.tmp 6] L99 := ⟨Try.f99, Try.func99, by kernel_rfl, Try.ntmps99, by rw [Try.results99], by kernel_rfl⟩
def L100 : LCode :=
 (.seq
 (.ops [⟨(some 5), none, .mov (kc 0)⟩])
 (.seq
 (.dops [(⟨(some 6), none, .load 65 (tm 2) none⟩, []),
   (⟨(some 7), none, .mov (tm 0)⟩, []),
   (⟨(some 8), none, .call 54 [(tm 6), (tm 7)] 3⟩, [0, 1]),
   (⟨(some 9), none, .load 65 (tm 2) none⟩, []),
   (⟨(some 10), none, .mov (tm 1)⟩, []),
   (⟨(some 11), none, .call 54 [(tm 9), (tm 10)] 3⟩, [3, 4, 2]),
   (⟨(some 12), none, .bin .sub 3 (tm 8) (tm 11)⟩, [2, 5]),
   (⟨(some 5), none, .mov (tm 12)⟩, [6, 5, 0, 1, 2, 3, 4, 5, 6])])
 .ret))
theorem fn100 : FnOK Try.prog 100 13 [.tmp 5] L100 := ⟨Try.f100, Try.func100, by kernel_rfl, Try.ntmps100, by rw [Try.results100], by kernel_rfl⟩
def L101 : LCode :=
 (.seq
 (.ops [⟨(some 4), none, .mov (kc 0)⟩])
 (.seq
 (.seq
 (.ops [⟨(some 6), none, .mov (tm 0)⟩,
   ⟨(some 7), none, .len false 32 3 (tm 6)⟩,
   ⟨(some 8), none, .mov (kc 0)⟩])
 (.block 0
  (.loop
   (.seq
   (.ops [⟨(some 9), none, .bin .lss 3 (tm 8) (tm 7)⟩])
   (.seq
   (.ite (tm 9)
    .skip
    (.exit 0))
   (.seq
   (.block 1
    (.seq
    (.ops [⟨(some 10), none, .mov (tm 8)⟩,
      ⟨(some 5), none, .mov (tm 10)⟩])
    (.seq
    (.ops [⟨(some 11), none, .mov (tm 1)⟩,
      ⟨(some 12), none, .mov (tm 0)⟩,
      ⟨(some 13), none, .mov (tm 5)⟩,
      ⟨(some 14), none, .iaddr 32 (tm 12) (tm 13) 1⟩,
      ⟨(some 15), none, .load 3 (tm 14) none⟩,
      ⟨(some 16), none, .callv (tm 11) [(tm 15)] 4⟩])
    (.ite (tm 16)
     (.seq
     (.ops [⟨(some 17), none, .mov (tm 5)⟩,
       ⟨(some 4), none, .mov (tm 17)⟩])
     .ret)
     .skip))))
   (.ops [⟨(some 18), none, .bin .add 3 (tm 8) (kc 1)⟩,
     ⟨(some 8), none, .mov (tm 18)⟩])))))))
 (.seq
 (.ops [⟨(some 4), none, .mov (kc (-1))⟩])
 .ret)))
theorem fn101 : FnOK Try.prog 101 19 [.tmp 4] L101 := ⟨Try.f101, Try.func101, by kernel_rfl, Try.ntmps101, by rw [Try.results101], by kernel_rfl⟩
def L102 : LCode :=
 (.seq
 (.ops [⟨(some 2), none, .box 94 (tm 0)⟩,
   ⟨(some 3), none, .box 3 (tm 1)⟩,
   ⟨(some 4), none, .mov (.const .nilFunc)⟩])
 (.seq
 (.ops [⟨(some 5), none, .mkfn (.func 104) [] [(tm 2), (tm 3)]⟩,
   ⟨(some 4), none, .mov (tm 5)⟩])
 .ret))
theorem fn102 : FnOK Try.prog 102 6 [.tmp 4] L102 := ⟨Try.f102, Try.func102, by kernel_rfl, Try.ntmps102, by rw [Try.results102], by kernel_rfl⟩
def L103 : LCode :=
 (.seq
 (.ops [⟨(some 2), none, .mov (.const (.bool false))⟩])
 (.seq
 (.ops [⟨(some 3), none, .mov (tm 0)⟩,
   ⟨(some 4), none, .mov (tm 0)⟩,
   ⟨(some 5), none, .bin .neq 3 (tm 3) (tm 4)⟩,
   ⟨(some 2), none, .mov (tm 5)⟩])
 .ret))
theorem fn103 : FnOK Try.prog 103 6 [.tmp 2] L103 := ⟨Try.f103, Try.func103, by kernel_rfl, Try.ntmps103, by rw [Try.results103], by kernel_rfl⟩
def L104 : LCode :=
 (.seq
 (.ops [⟨(some 3), none, .box 141 (tm 0)⟩])
 (.seq
 (.ops [⟨(some 6), none, .load 94 (tm 1) none⟩,
   ⟨(some 7), none, .mkfn (.func 105) [(tm 6)] []⟩,
   ⟨(some 4), none, .alloc 89 [.nilFunc]⟩,
   ⟨none, none, .store 89 (tm 4) (tm 7) 1⟩])
 (.seq
 (.ops [⟨(some 5), none, .alloc 148 [.nilFunc]⟩])
 (.seq
 (.ops [⟨(some 8), none, .mkfn (.func 106) [] [(tm 1), (tm 2), (tm 3), (tm 5), (tm 4)]⟩,
   ⟨none, none, .store 148 (tm 5) (tm 8) 1⟩])
 (.ops [⟨(some 9), none, .load 148 (tm 5) none⟩,
   ⟨(some 10), none, .build 99 [] [(.int .i64 0), (.int .i64 0), (.int .i64 0), (.int .i64 0), (.int .i64 0), (.int .i64 0)] []⟩,
   ⟨(some 11), none, .callv (tm 9) [(kc 0), (tm 10)] 4⟩])))))
theorem fn104 : FnOK Try.prog 104 12 [] L104 := ⟨Try.f104, Try.func104, by kernel_rfl, Try.ntmps104, by rw [Try.results104], by kernel_rfl⟩
def L105 : LCode :=
 (.seq
 (.ops [⟨(some 8), none, .mov (.const (.bool false))⟩])
 (.seq
 (.ops [⟨(some 11), none, .mov (tm 0)⟩,
   ⟨(some 12), none, .nilck (tm 11)⟩,
   ⟨(some 13), none, .faddr 112 (tm 12) 0 0⟩,
   ⟨(some 14), none, .faddr 25 (tm 13) 2 2⟩,
   ⟨(some 15), none, .load 23 (tm 14) none⟩,
   ⟨(some 16), none, .mov (tm 1)⟩,
   ⟨(some 17), none, .iaddr 23 (tm 15) (tm 16) 2⟩,
   ⟨(some 18), none, .load 55 (tm 17) (some 2)⟩,
   ⟨(some 9), none, .alloc 55 [(.int .i64 0), (.string ⟨#[]⟩)]⟩,
   ⟨none, none, .store 55 (tm 9) (tm 18) 2⟩])
 (.seq
 (.dops [(⟨(some 19), none, .mov (tm 0)⟩, []),
   (⟨(some 20), none, .nilck (tm 19)⟩, [0]),
   (⟨(some 21), none, .faddr 112 (tm 20) 0 0⟩, [1]),
   (⟨(some 22), none, .faddr 25 (tm 21) 1 1⟩, [2]),
   (⟨(some 23), none, .load 22 (tm 22) none⟩, [3]),
   (⟨(some 24), none, .faddr 55 (tm 9) 0 0⟩, []),
   (⟨(some 25), none, .load 3 (tm 24) none⟩, [5]),
   (⟨(some 26), none, .iaddr 22 (tm 23) (tm 25) 2⟩, [4, 6]),
   (⟨(some 27), none, .faddr 67 (tm 26) 1 1⟩, [7]),
   (⟨(some 28), none, .load 65 (tm 27) none⟩, [8]),
   (⟨(some 10), none, .mov (tm 28)⟩, [9, 0, 1, 2, 3, 4, 5, 6, 7, 8, 9])])
 (.seq
 (.ops [⟨(some 29), none, .mov (tm 10)⟩,
   ⟨(some 30), none, .mov (tm 10)⟩,
   ⟨(some 31), none, .faddr 55 (tm 9) 1 1⟩,
   ⟨(some 32), none, .load 9 (tm 31) none⟩,
   ⟨(some 33), none, .mov (tm 2)⟩,
   ⟨(some 34), none, .indexS 9 (tm 32) (tm 33)⟩,
   ⟨(some 35), none, .call 54 [(tm 30), (tm 34)] 3⟩,
   ⟨(some 36), none, .iaddr 65 (tm 29) (tm 35) 3⟩,
   ⟨(some 37), none, .load 69 (tm 36) (some 3)⟩,
   ⟨(some 38), none, .mov (tm 3)⟩,
   ⟨(some 39), none, .call 78 [(tm 37), (tm 38)] 4⟩,
   ⟨(some 8), none, .mov (tm 39)⟩])
 .ret))))
theorem fn105 : FnOK Try.prog 105 40 [.tmp 8] L105 := ⟨Try.f105, Try.func105, by kernel_rfl, Try.ntmps105, by rw [Try.results105], by kernel_rfl⟩
def L106 : LCode :=
 (.seq
 (.ops [⟨(some 8), none, .box 99 (tm 1)⟩,
   ⟨(some 9), none, .mov (.const (.bool false))⟩])
 (.scope
  (.seq
  (.seq
  (.dops [(⟨(some 12), none, .mov (tm 0)⟩, []),
    (⟨(some 13), none, .load 94 (tm 2) none⟩, []),
    (⟨(some 14), none, .nilck (tm 13)⟩, [1]),
    (⟨(some 15), none, .faddr 112 (tm 14) 0 0⟩, [2]),
    (⟨(some 16), none, .faddr 25 (tm 15) 2 2⟩, [3]),
    (⟨(some 17), none, .load 23 (tm 16) none⟩, [4]),
    (⟨(some 18), none, .load 3 (tm 3) none⟩, []),
    (⟨(some 19), none, .iaddr 23 (tm 17) (tm 18) 2⟩, [5, 6]),
    (⟨(some 20), none, .faddr 55 (tm 19) 1 1⟩, [7]),
    (⟨(some 21), none, .load 9 (tm 20) none⟩, [8]),
    (⟨(some 22), none, .len true 9 3 (tm 21)⟩, [9]),
    (⟨(some 23), none, .bin .eql 3 (tm 12) (tm 22)⟩, [0, 10])])
  (.ite (tm 23)
   (.seq
   (.ops [⟨(some 24), none, .load 141 (tm 4) none⟩,
     ⟨(some 25), none, .load 99 (tm 8) (some 6)⟩,
     ⟨(some 26), none, .callv (tm 24) [(tm 25)] 4⟩,
     ⟨(some 9), none, .mov (tm 26)⟩])
   .ret)
   .skip))
  (.seq
  (.seq
  (.ops [⟨(some 27), none, .load 94 (tm 2) none⟩,
    ⟨(some 28), none, .load 3 (tm 3) none⟩,
    ⟨(some 29), none, .mov (tm 0)⟩,
    ⟨(some 30), none, .call 107 [(tm 27), (tm 28), (tm 29)] 4⟩,
    ⟨(some 31), none, .mov (tm 30)⟩,
    ⟨(some 32), some (31, true), .load 148 (tm 5) none⟩,
    ⟨(some 33), some (31, true), .mov (tm 0)⟩,
    ⟨(some 34), some (31, true), .bin .add 3 (tm 33) (kc 1)⟩,
    ⟨(some 35), some (31, true), .load 99 (tm 8) (some 6)⟩,
    ⟨(some 36), some (31, true), .callv (tm 32) [(tm 34), (tm 35)] 4⟩,
    ⟨(some 37), some (31, true), .un .not (tm 36)⟩,
    ⟨(some 38), none, .pick (tm 31) (tm 37) (.const (.bool false))⟩])
  (.ite (tm 38)
   (.seq
   (.ops [⟨(some 9), none, .mov (.const (.bool false))⟩])
   .ret)
   .skip))
  (.seq
  (.label 0)
  (.seq
  (.seq
  (.ops [⟨(some 39), none, .load 94 (tm 2) none⟩,
    ⟨(some 40), none, .nilck (tm 39)⟩,
    ⟨(some 41), none, .faddr 112 (tm 40) 0 0⟩,
    ⟨(some 42), none, .faddr 25 (tm 41) 0 0⟩,
    ⟨(some 43), none, .load 3 (tm 42) none⟩,
    ⟨(some 44), none, .mov (kc 0)⟩])
  (.block 0
   (.loop
    (.seq
    (.ops [⟨(some 45), none, .bin .lss 3 (tm 44) (tm 43)⟩])
    (.seq
    (.ite (tm 45)
     .skip
     (.exit 0))
    (.seq
    (.block 1
     (.seq
     (.ops [⟨(some 46), none, .mov (tm 44)⟩,
       ⟨(some 10), none, .mov (tm 46)⟩])
     (.seq
     (.seq
     (.ops [⟨(some 47), none, .load 89 (tm 6) none⟩,
       ⟨(some 48), none, .load 3 (tm 3) none⟩,
       ⟨(some 49), none, .mov (tm 0)⟩,
       ⟨(some 50), none, .mov (tm 10)⟩,
       ⟨(some 51), none, .callv (tm 47) [(tm 48), (tm 49), (tm 50)] 4⟩,
       ⟨(some 52), none, .un .not (tm 51)⟩])
     (.ite (tm 52)
      (.exit 1)
      .skip))
     (.seq
     (.ops [⟨(some 53), none, .load 99 (tm 8) (some 6)⟩,
       ⟨(some 11), none, .alloc 99 [(.int .i64 0), (.int .i64 0), (.int .i64 0), (.int .i64 0), (.int .i64 0), (.int .i64 0)]⟩,
       ⟨none, none, .store 99 (tm 11) (tm 53) 6⟩])
     (.seq
     (.ops [⟨(some 54), none, .faddr 99 (tm 8) 0 0⟩,
       ⟨(some 55), none, .load 3 (tm 54) none⟩,
       ⟨(some 56), none, .mov (tm 10)⟩,
       ⟨(some 57), none, .faddr 99 (tm 11) 1 1⟩,
       ⟨(some 58), none, .iaddrA 97 (tm 57) (tm 55) 5 1⟩,
       ⟨none, none, .store 3 (tm 58) (tm 56) 1⟩])
     (.seq
     (.ops [⟨(some 59), none, .faddr 99 (tm 11) 0 0⟩,
       ⟨(some 60), none, .load 3 (tm 59) none⟩,
       ⟨(some 61), none, .bin .add 3 (tm 60) (kc 1)⟩,
       ⟨(some 62), none, .faddr 99 (tm 11) 0 0⟩,
       ⟨none, none, .store 3 (tm 62) (tm 61) 1⟩])
     (.seq
     (.ops [⟨(some 63), none, .load 148 (tm 5) none⟩,
       ⟨(some 64), none, .mov (tm 0)⟩,
       ⟨(some 65), none, .bin .add 3 (tm 64) (kc 1)⟩,
       ⟨(some 66), none, .load 99 (tm 11) (some 6)⟩,
       ⟨(some 67), none, .callv (tm 63) [(tm 65), (tm 66)] 4⟩,
       ⟨(some 68), none, .un .not (tm 67)⟩])
     (.ite (tm 68)
      (.seq
      (.ops [⟨(some 9), none, .mov (.const (.bool false))⟩])
      .ret)
      .skip))))))))
    (.ops [⟨(some 69), none, .bin .add 3 (tm 44) (kc 1)⟩,
      ⟨(some 44), none, .mov (tm 69)⟩])))))))
  (.seq
  (.ops [⟨(some 9), none, .mov (.const (.bool true))⟩])
  .ret)))))))
theorem fn106 : FnOK Try.prog 106 70 [.tmp 9] L106 := ⟨Try.f106, Try.func106, by kernel_rfl, Try.ntmps106, by rw [Try.results106], by kernel_rfl⟩
def L107 : LCode :=
 (.seq
 (.ops [⟨(some 6), none, .mov (.const (.bool false))⟩])
 (.seq
 (.ops [⟨(some 9), none, .mov (tm 0)⟩,
   ⟨(some 10), none, .nilck (tm 9)⟩,
   ⟨(some 11), none, .faddr 112 (tm 10) 0 0⟩,
   ⟨(some 12), none, .faddr 25 (tm 11) 2 2⟩,
   ⟨(some 13), none, .load 23 (tm 12) none⟩,
   ⟨(some 14), none, .mov (tm 1)⟩,
   ⟨(some 15), none, .iaddr 23 (tm 13) (tm 14) 2⟩,
   ⟨(some 16), none, .load 55 (tm 15) (some 2)⟩,
   ⟨(some 7), none, .alloc 55 [(.int .i64 0), (.string ⟨#[]⟩)]⟩,
   ⟨none, none, .store 55 (tm 7) (tm 16) 2⟩])
 (.seq
 (.dops [(⟨(some 17), none, .mov (tm 0)⟩, []),
   (⟨(some 18), none, .nilck (tm 17)⟩, [0]),
   (⟨(some 19), none, .faddr 112 (tm 18) 0 0⟩, [1]),
   (⟨(some 20), none, .faddr 25 (tm 19) 1 1⟩, [2]),
   (⟨(some 21), none, .load 22 (tm 20) none⟩, [3]),
   (⟨(some 22), none, .faddr 55 (tm 7) 0 0⟩, []),
   (⟨(some 23), none, .load 3 (tm 22) none⟩, [5]),
   (⟨(some 24), none, .iaddr 22 (tm 21) (tm 23) 2⟩, [4, 6]),
   (⟨(some 25), none, .faddr 67 (tm 24) 1 1⟩, [7]),
   (⟨(some 26), none, .load 65 (tm 25) none⟩, [8]),
   (⟨(some 8), none, .mov (tm 26)⟩, [9, 0, 1, 2, 3, 4, 5, 6, 7, 8, 9])])
 (.seq
 (.ops [⟨(some 27), none, .mov (tm 8)⟩,
   ⟨(some 28), none, .mov (tm 8)⟩,
   ⟨(some 29), none, .faddr 55 (tm 7) 1 1⟩,
   ⟨(some 30), none, .load 9 (tm 29) none⟩,
   ⟨(some 31), none, .mov (tm 2)⟩,
   ⟨(some 32), none, .indexS 9 (tm 30) (tm 31)⟩,
   ⟨(some 33), none, .call 54 [(tm 28), (tm 32)] 3⟩,
   ⟨(some 34), none, .iaddr 65 (tm 27) (tm 33) 3⟩,
   ⟨(some 35), none, .faddr 69 (tm 34) 2 2⟩,
   ⟨(some 36), none, .load 4 (tm 35) none⟩,
   ⟨(some 6), none, .mov (tm 36)⟩])
 .ret))))
theorem fn107 : FnOK Try.prog 107 37 [.tmp 6] L107 := ⟨Try.f107, Try.func107, by kernel_rfl, Try.ntmps107, by rw [Try.results107], by kernel_rfl⟩
end Go.Px

namespace Go.Px
open Go.Proofs

theorem drop_cons {α : Type} {l : List α} {k : Nat} {x : α} (h : l[k]? = some x) : l.drop k = x :: l.drop (k + 1) := by
  obtain ⟨hk, rfl⟩ := List.getElem?_eq_some_iff.1 h
  exact List.drop_eq_getElem_cons hk
theorem drop_nil {α : Type} {l : List α} {k : Nat} (h : ¬ k < l.length) : l.drop k = [] := List.drop_eq_nil_of_le (by omega)
theorem ex_get {α : Type} {l : List α} {k : Nat} (h : k < l.length) : ∃ x, l[k]? = some x := ⟨l[k], by simp [h]⟩

theorem in_ev (n lo hi : Int) : Ev Try.prog 55 [I n, I lo, I hi] (B (decide (lo ≤ n) && decide (n ≤ hi))) := by
  refine Ev.intro fn55 ?_
  refine LWp.sx (gs := []) (hs := []) rfl trivial ?_
  by_cases h : lo ≤ n
  · refine LWp.sx (gs := [(10, true)]) (hs := []) rfl (by simp [h]) ?_
    refine LWp.ret (retT (.inr rfl) (.one (.tmp ?_ rfl)))
    show B _ = B _
    simp [h]
  · refine LWp.sx (gs := [(10, false)]) (hs := []) rfl (by simp [h]) ?_
    refine LWp.ret (retT (.inr rfl) (.one (.tmp ?_ rfl)))
    show B _ = B _
    simp [h]

def lessL : List Int → List Int → Bool
  | _, [] => false
  | [], _ :: _ => true
  | a :: x, b :: y => if a = b then lessL x y else decide (a < b)

theorem less_ev (a b : List Int) : Ev Try.prog 67 [ints a, ints b] (B (lessL a b)) := by
  refine Ev.intro fn67 ?_
  refine LWp.slLen 0 rfl fun ha => ?_
  refine LWp.slLen 1 rfl fun hb => ?_
  simp only [List.length_map] at ha hb
  refine LWp.sx (gs := []) (hs := []) rfl trivial ?_
  refine LWp.sx (gs := []) (hs := []) rfl trivial ?_
  refine LWp.blockX (fun k : Nat => k ≤ a.length ∧ k ≤ b.length ∧ lessL a b = lessL (a.drop k) (b.drop k) ∧ ∀ x y, a[k]? = some x → b[k]? = some y → x ≠ y) (fun k => el [(0, ints a), (1, ints b), (5, I k)]) (fun _ => []) (fun _ => []) ?_ ?_
  · refine LWp.loopN (fun k : Nat => k ≤ a.length ∧ k ≤ b.length ∧ lessL a b = lessL (a.drop k) (b.drop k)) (fun k => el [(0, ints a), (1, ints b), (5, I k)]) (fun _ => []) (fun _ => []) (fun k => a.length - k) 0 ⟨by omega, by omega, rfl⟩
      (Ent.el ⟨rfl, rfl, rfl, trivial⟩) ?_
    rintro k ⟨h1, h2, h3⟩
    by_cases ha' : k < a.length
    · by_cases hb' : k < b.length
      · have hx : a[k]? = some a[k] := by simp
        have hy : b[k]? = some b[k] := by simp
        refine LWp.seq (LWp.seq ?_)
        refine LWp.dd (gs := [(10, true), (16, true)]) (hs := [.cells [I a[k]], .cells [I b[k]]]) hmix rfl (by kernel_rfl) (by simp [ha', hb']) ?_
        refine LWp.ite rfl (fun hc => ?_) (fun hc => ?_)
        · simp only [beq_iff_eq] at hc
          refine LWp.skip ?_
          refine LWp.block ?_
          refine LWp.x (gs := []) (hs := []) rfl ⟨by omega, trivial⟩ ?_
          refine ⟨k + 1, ⟨by omega, by omega, ?_⟩, by omega, Ent.el ⟨rfl, rfl, rfl, trivial⟩⟩
          rw [h3, drop_cons hx, drop_cons hy, lessL, if_pos hc]
        · simp only [beq_eq_false_iff_ne, ne_eq] at hc
          refine LWp.exit ⟨k, ⟨h1, h2, h3, fun u v hu hv => ?_⟩, Ent.el ⟨rfl, rfl, rfl, trivial⟩⟩
          rw [hx] at hu; rw [hy] at hv; cases hu; cases hv; exact hc
      · refine LWp.seq (LWp.seq ?_)
        refine LWp.dd (gs := [(10, true), (16, false)]) (hs := []) hmix rfl (by kernel_rfl) (by simp [ha', hb']) ?_
        refine LWp.ite (b := false) rfl (fun hc => by cases hc) (fun hc => ?_)
        refine LWp.exit ⟨k, ⟨h1, h2, h3, fun u v hu hv => ?_⟩, Ent.el ⟨rfl, rfl, rfl, trivial⟩⟩
        exact absurd (List.getElem?_eq_some_iff.1 hv).1 hb'
    · refine LWp.seq (LWp.seq ?_)
      refine LWp.dd (gs := [(10, false), (16, false)]) (hs := []) hmix rfl (by kernel_rfl) (by simp [ha']) ?_
      refine LWp.ite (b := false) rfl (fun hc => by cases hc) (fun hc => ?_)
      refine LWp.exit ⟨k, ⟨h1, h2, h3, fun u v hu hv => ?_⟩, Ent.el ⟨rfl, rfl, rfl, trivial⟩⟩
      exact absurd (List.getElem?_eq_some_iff.1 hu).1 ha'
  · rintro k ⟨h1, h2, h3, h4⟩
    refine LWp.seq ?_
    refine LWp.sx (gs := []) (hs := []) rfl trivial ?_
    refine LWp.ite rfl (fun hc => ?_) (fun hc => ?_)
    · simp only [List.length_map, beq_iff_eq, Int.natCast_inj] at hc
      refine LWp.sx (gs := []) (hs := []) rfl trivial ?_
      refine LWp.ret (retT (.inr rfl) (.one (.tmp ?_ rfl)))
      show B _ = B _
      rw [h3, drop_nil (l := b) (by omega)]
      cases a.drop k <;> rfl
    · simp only [List.length_map, beq_eq_false_iff_ne, ne_eq, Int.natCast_inj] at hc
      have hb' : k < b.length := by omega
      obtain ⟨y, hy⟩ := ex_get hb'
      refine LWp.skip ?_
      by_cases ha' : k < a.length
      · obtain ⟨x, hx⟩ := ex_get ha'
        have hne : ¬ ((k : Int) = a.length) := by omega
        refine LWp.sd (gs := [(37, false)]) (hs := [.cells [I x], .cells [I y]]) hmix rfl (by kernel_rfl) (by simp [hne, hx, hy]) ?_
        refine LWp.ret (retT (.inr rfl) (.one (.tmp ?_ rfl)))
        show B _ = B _
        rw [h3, drop_cons hx, drop_cons hy, lessL, if_neg (h4 x y hx hy)]
      · have he : ((k : Int) = a.length) := by omega
        refine LWp.sd (gs := [(37, true)]) (hs := []) hmix rfl (by kernel_rfl) (by simp [he]) ?_
        refine LWp.ret (retT (.inr rfl) (.one (.tmp ?_ rfl)))
        show B _ = B _
        rw [h3, drop_nil ha', drop_cons hy]; rfl

def intsEq (a b : List Int) : Bool := decide (a.length = b.length) && (!lessL a b && !lessL b a)
theorem lessL_refl : ∀ a : List Int, lessL a a = false
  | [] => rfl
  | x :: a => by simp [lessL, lessL_refl a]
theorem intsEq_iff : ∀ {a b : List Int}, intsEq a b = true ↔ a = b
  | [], [] => by simp [intsEq, lessL]
  | [], y :: b => by simp [intsEq]
  | x :: a, [] => by simp [intsEq]
  | x :: a, y :: b => by
    have ih := intsEq_iff (a := a) (b := b)
    simp only [intsEq, Bool.and_eq_true, decide_eq_true_eq, Bool.not_eq_true', List.length_cons, lessL] at ih ⊢
    by_cases h : x = y
    · subst h
      simp only [if_true, List.cons.injEq, true_and, Nat.add_right_cancel_iff]
      exact ⟨fun h => ih.1 ⟨by omega, h.2⟩, fun h => ⟨by rw [h], (ih.2 h).2⟩⟩
    · have h' : ¬ y = x := fun e => h e.symm
      simp only [h, h', if_false, decide_eq_false_iff_not, List.cons.injEq, false_and, iff_false]
      omega
theorem ints_ev (a b : List Int) : Ev Try.prog 26 [ints a, ints b] (B (intsEq a b)) := by
  refine Ev.intro fn26 ?_
  refine LWp.sx (gs := []) (hs := []) rfl trivial ?_
  by_cases h : a.length = b.length
  · cases h1 : lessL a b with
    | true =>
      refine LWp.sx (gs := [(10, true), (16, false)]) (hs := [.ret (B true)]) rfl (by simp [h, ← h1]; exact less_ev a b) ?_
      refine LWp.ret (retT (.inr rfl) (.one (.tmp ?_ rfl)))
      show B _ = B _
      simp [intsEq, h, h1]
    | false =>
      refine LWp.sx (gs := [(10, true), (16, true)]) (hs := [.ret (B false), .ret (B (lessL b a))]) rfl (by simp [h]; exact ⟨by rw [← h1]; exact less_ev a b, less_ev b a⟩) ?_
      refine LWp.ret (retT (.inr rfl) (.one (.tmp ?_ rfl)))
      show B _ = B _
      simp [intsEq, h, h1]
  · have h' : ¬ ((a.length : Int) = b.length) := by omega
    refine LWp.sx (gs := [(10, false), (16, false)]) (hs := []) rfl (by simp; exact h') ?_
    refine LWp.ret (retT (.inr rfl) (.one (.tmp ?_ rfl)))
    show B _ = B _
    simp [intsEq, h]

def fewerL (a b : List Int) : Bool := if a.length = b.length then lessL a b else decide (a.length < b.length)
theorem fewer_ev (a b : List Int) : Ev Try.prog 40 [ints a, ints b] (B (fewerL a b)) := by
  refine Ev.intro fn40 ?_
  refine LWp.sx (gs := []) (hs := []) rfl trivial ?_
  refine LWp.seq ?_
  refine LWp.sx (gs := []) (hs := []) rfl trivial ?_
  refine LWp.ite rfl (fun hc => ?_) (fun hc => ?_)
  · simp only [List.length_map, bne_iff_ne, ne_eq, Int.natCast_inj] at hc
    refine LWp.sx (gs := []) (hs := []) rfl trivial ?_
    refine LWp.ret (retT (.inr rfl) (.one (.tmp ?_ rfl)))
    show B _ = B _
    simp [fewerL, hc]
  · simp only [List.length_map, bne_eq_false_iff_eq, Int.natCast_inj] at hc
    refine LWp.skip ?_
    refine LWp.sx (gs := []) (hs := [.ret (B (lessL a b))]) rfl ⟨less_ev a b, trivial⟩ ?_
    refine LWp.ret (retT (.inr rfl) (.one (.tmp ?_ rfl)))
    show B _ = B _
    simp [fewerL, hc]

def bitI (bits k : Int) : Bool := decide (bits / 2 ^ k.toNat % 2 = 1)
theorem bit_ev (bits k : Int) (h0 : 0 ≤ bits) (h1 : bits ≤ 9223372036854775807) (hk : k ≤ 9223372036854775807) : Ev Try.prog 41 [I bits, I k] (B (bitI bits k)) := by
  refine Ev.intro fn41 ?_
  refine LWp.sx (gs := []) (hs := []) rfl trivial ?_
  refine LWp.seq ?_
  refine LWp.sx (gs := []) (hs := []) rfl trivial ?_
  refine LWp.blockT (fun i : Int => bits / 2 ^ i.toNat = bits / 2 ^ k.toNat) (fun i => el [(0, I (bits / 2 ^ i.toNat)), (1, I k)]) (fun _ => []) (fun _ => []) ?_ ?_
  · refine LWp.loopN (fun i : Int => 0 ≤ i ∧ (i ≤ k ∨ i = 0)) (fun i => el [(0, I (bits / 2 ^ i.toNat)), (1, I k), (5, I i)]) (fun _ => []) (fun _ => []) (fun i => (k - i).toNat) 0 ⟨by omega, by omega⟩
      (Ent.el ⟨by show I bits = I _; simp, rfl, rfl, trivial⟩) ?_
    rintro i ⟨hi0, hi1⟩
    refine LWp.seq (LWp.seq ?_)
    refine LWp.x (gs := []) (hs := []) rfl trivial ?_
    refine LWp.ite rfl (fun hc => ?_) (fun hc => ?_)
    · simp only [decide_eq_true_eq] at hc
      refine LWp.skip ?_
      have hq : 0 ≤ bits / 2 ^ i.toNat := Int.ediv_nonneg h0 (Int.le_of_lt (Int.pow_pos (by omega)))
      have hq2 : bits / 2 ^ i.toNat ≤ bits := Int.ediv_le_self _ h0
      refine LWp.seq (LWp.block ?_)
      refine LWp.x (gs := []) (hs := []) rfl ⟨⟨hq, by omega, by omega⟩, trivial⟩ ?_
      refine LWp.x (gs := []) (hs := []) rfl ⟨by omega, trivial⟩ ?_
      refine ⟨i + 1, ⟨by omega, by omega⟩, by omega, Ent.el ⟨?_, rfl, rfl, trivial⟩⟩
      show I _ = I _
      have hp : (0 : Int) < 2 ^ i.toNat := Int.pow_pos (by omega)
      rw [Int.ediv_ediv, if_neg (fun h => by omega), show (i + 1).toNat = i.toNat + 1 by omega, Int.pow_succ, Int.sub_zero]
    · simp only [decide_eq_false_iff_not] at hc
      refine LWp.exit ⟨i, ?_, Ent.el ⟨rfl, rfl, trivial⟩⟩
      have : i.toNat = k.toNat := by omega
      rw [this]
  · intro i hi
    have hq : 0 ≤ bits / 2 ^ i.toNat := Int.ediv_nonneg h0 (Int.le_of_lt (Int.pow_pos (by omega)))
    refine LWp.sx (gs := []) (hs := []) rfl ⟨⟨hq, by omega⟩, trivial⟩ ?_
    refine LWp.ret (retT (.inr rfl) (.one (.tmp ?_ rfl)))
    show B _ = B _
    rw [hi]; rfl

theorem has_ev (l : List Int) (n : Int) : Ev Try.prog 81 [ints l, I n] (B (l.any (· == n))) := by
  refine Ev.intro fn81 ?_
  refine LWp.slLen 0 rfl fun ha => ?_
  simp only [List.length_map] at ha
  refine LWp.sx (gs := []) (hs := []) rfl trivial ?_
  refine LWp.sx (gs := []) (hs := []) rfl trivial ?_
  refine LWp.seq ?_
  refine LWp.sx (gs := []) (hs := []) rfl trivial ?_
  refine LWp.blockT (fun _ : Unit => True) (fun _ => el [(5, B (l.any (· == n)))]) (fun _ => []) (fun _ => []) ?_ ?_
  · refine LWp.loopN (fun k : Nat => k ≤ l.length) (fun k => el [(0, ints l), (1, I n), (5, B ((l.take k).any (· == n))), (6, I k)]) (fun _ => []) (fun _ => []) (fun k => l.length - k) 0 (by omega)
      (Ent.el ⟨rfl, rfl, rfl, rfl, trivial⟩) ?_
    intro k hk
    refine LWp.seq (LWp.seq ?_)
    refine LWp.x (gs := []) (hs := []) rfl trivial ?_
    refine LWp.ite rfl (fun hc => ?_) (fun hc => ?_)
    · simp only [List.length_map, decide_eq_true_eq, Int.ofNat_lt] at hc
      have hx : l[k]? = some l[k] := by simp
      refine LWp.skip (LWp.seq (LWp.block ?_))
      have ht : (l.take (k + 1)).any (· == n) = ((l.take k).any (· == n) || l[k] == n) := by
        rw [List.take_succ_eq_append_getElem hc, List.any_append]; simp
      cases hm : (l.take k).any (· == n) with
      | true =>
        rw [hm] at ht
        refine LWp.x (gs := [(14, true)]) (hs := []) rfl (by simp) ?_
        refine LWp.x (gs := []) (hs := []) rfl ⟨by omega, trivial⟩ ?_
        exact ⟨k + 1, hc, by omega, Ent.el ⟨rfl, rfl, by rw [ht]; rfl, rfl, trivial⟩⟩
      | false =>
        rw [hm] at ht
        refine LWp.x (gs := [(14, false)]) (hs := [.cells [I l[k]]]) rfl (by simp [hc]) ?_
        refine LWp.x (gs := []) (hs := []) rfl ⟨by omega, trivial⟩ ?_
        exact ⟨k + 1, hc, by omega, Ent.el ⟨rfl, rfl, by rw [ht]; rfl, rfl, trivial⟩⟩
    · simp only [List.length_map, decide_eq_false_iff_not, Int.ofNat_lt] at hc
      refine LWp.exit ⟨(), trivial, Ent.el ⟨?_, trivial⟩⟩
      show B _ = B _
      rw [List.take_of_length_le (by omega)]
  · intro _ _
    refine LWp.sx (gs := []) (hs := []) rfl trivial ?_
    refine LWp.ret (retT (.inr rfl) (.one (.tmp ?_ rfl)))
    rfl

abbrev bools (l : List Bool) : AV := .sl 1 (l.map fun x => [B x])
theorem many_ev (l : List Bool) : Ev Try.prog 62 [bools l] (I (l.countP id)) := by
  refine Ev.intro fn62 ?_
  refine LWp.slLen 0 rfl fun ha => ?_
  simp only [List.length_map] at ha
  refine LWp.sx (gs := []) (hs := []) rfl trivial ?_
  refine LWp.sx (gs := []) (hs := []) rfl trivial ?_
  refine LWp.seq ?_
  refine LWp.sx (gs := []) (hs := []) rfl trivial ?_
  refine LWp.blockT (fun _ : Unit => True) (fun _ => el [(3, I (l.countP id))]) (fun _ => []) (fun _ => []) ?_ ?_
  · refine LWp.loopN (fun k : Nat => k ≤ l.length) (fun k => el [(0, bools l), (3, I ((l.take k).countP id)), (4, I k)]) (fun _ => []) (fun _ => []) (fun k => l.length - k) 0 (by omega)
      (Ent.el ⟨rfl, rfl, rfl, trivial⟩) ?_
    intro k hk
    have hcl : (l.take k).countP id ≤ k := Nat.le_trans List.countP_le_length (by rw [List.length_take]; omega)
    refine LWp.seq (LWp.seq ?_)
    refine LWp.x (gs := []) (hs := []) rfl trivial ?_
    refine LWp.ite rfl (fun hc => ?_) (fun hc => ?_)
    · simp only [List.length_map, decide_eq_true_eq, Int.ofNat_lt] at hc
      have ht : (l.take (k + 1)).countP id = (l.take k).countP id + (if l[k] then 1 else 0) := by
        rw [List.take_succ_eq_append_getElem hc, List.countP_append]; simp [List.countP_cons]
      refine LWp.skip (LWp.seq (LWp.block (LWp.seq ?_)))
      refine LWp.x (gs := []) (hs := [.cells [B l[k]]]) rfl (by simp [hc]) ?_
      refine LWp.ite rfl (fun hb => ?_) (fun hb => ?_)
      · rw [hb] at ht
        refine LWp.x (gs := []) (hs := []) rfl ⟨by omega, trivial⟩ ?_
        refine LWp.x (gs := []) (hs := []) rfl ⟨by omega, trivial⟩ ?_
        exact ⟨k + 1, hc, by omega, Ent.el ⟨rfl, by rw [ht]; rfl, rfl, trivial⟩⟩
      · rw [hb] at ht
        refine LWp.skip ?_
        refine LWp.x (gs := []) (hs := []) rfl ⟨by omega, trivial⟩ ?_
        exact ⟨k + 1, hc, by omega, Ent.el ⟨rfl, by rw [ht]; rfl, rfl, trivial⟩⟩
    · simp only [List.length_map, decide_eq_false_iff_not, Int.ofNat_lt] at hc
      refine LWp.exit ⟨(), trivial, Ent.el ⟨?_, trivial⟩⟩
      show I _ = I _
      rw [List.take_of_length_le (by omega)]
  · intro _ _
    refine LWp.sx (gs := []) (hs := []) rfl trivial ?_
    refine LWp.ret (retT (.inr rfl) (.one (.tmp ?_ rfl)))
    rfl

/-- The first place of one with a property; -1: there is none. -/
def idxF {α : Type} (p : α → Bool) : List α → Int → Int
  | [], _ => -1
  | x :: l, k => if p x = true then k else idxF p l (k + 1)

theorem least_ev (l : List Bool) : Ev Try.prog 66 [bools l] (I (idxF id l 0)) := by
  refine Ev.intro fn66 ?_
  refine LWp.slLen 0 rfl fun ha => ?_
  simp only [List.length_map] at ha
  refine LWp.sx (gs := []) (hs := []) rfl trivial ?_
  refine LWp.seq ?_
  refine LWp.sx (gs := []) (hs := []) rfl trivial ?_
  refine LWp.blockT (fun _ : Unit => idxF id l 0 = -1) (fun _ => el []) (fun _ => []) (fun _ => []) ?_ ?_
  · refine LWp.loopN (fun k : Nat => k ≤ l.length ∧ idxF id l 0 = idxF id (l.drop k) k) (fun k => el [(0, bools l), (3, I k)]) (fun _ => []) (fun _ => []) (fun k => l.length - k) 0 ⟨by omega, rfl⟩
      (Ent.el ⟨rfl, rfl, trivial⟩) ?_
    rintro k ⟨hk, hi⟩
    refine LWp.seq (LWp.seq ?_)
    refine LWp.x (gs := []) (hs := []) rfl trivial ?_
    refine LWp.ite rfl (fun hc => ?_) (fun hc => ?_)
    · simp only [List.length_map, decide_eq_true_eq, Int.ofNat_lt] at hc
      rw [drop_cons (x := l[k]) (by simp), idxF] at hi
      refine LWp.skip (LWp.seq (LWp.block (LWp.seq ?_)))
      refine LWp.x (gs := []) (hs := [.cells [B l[k]]]) rfl (by simp [hc]) ?_
      refine LWp.ite rfl (fun hb => ?_) (fun hb => ?_)
      · refine LWp.sx (gs := []) (hs := []) rfl trivial ?_
        refine LWp.ret (retT (.inr rfl) (.one (.tmp ?_ rfl)))
        show I _ = I _
        rw [hi, hb]; rfl
      · refine LWp.skip ?_
        refine LWp.x (gs := []) (hs := []) rfl ⟨by omega, trivial⟩ ?_
        exact ⟨k + 1, ⟨hc, by rw [hi, hb]; rfl⟩, by omega, Ent.el ⟨rfl, rfl, trivial⟩⟩
    · simp only [List.length_map, decide_eq_false_iff_not, Int.ofNat_lt] at hc
      refine LWp.exit ⟨(), ?_, Ent.el trivial⟩
      rw [hi, drop_nil hc]; rfl
  · intro _ h
    refine LWp.sx (gs := []) (hs := []) rfl trivial ?_
    refine LWp.ret (retT (.inr rfl) (.one (.tmp ?_ rfl)))
    rw [h]; rfl
end Go.Px

