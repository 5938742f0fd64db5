/- Part 1 of the proof of the statement LetterBack (contracts of the functions that it alone wants). No conditions. -/
import Derived.Test.YtbplgdbdpdhipaaA7
import Derived.Test.YtbplgdbdpdhipaaChecked
import Derived.KernelRfl
namespace Go.Px
open Go.Proofs
set_option maxRecDepth 100000
def L12 : LCode :=
 (.seq
 (.ops [⟨(some 6), none, .mov (.const (.bool false))⟩])
 (.seq
 (.ops [⟨(some 20), none, .mov (tm 0)⟩,
 ⟨(some 21), none, .mov (tm 1)⟩,
 ⟨(some 22), none, .call 32 [(tm 20), (tm 21)] 48⟩,
 ⟨(some 19), none, .mov (tm 22)⟩,
 ⟨(some 23), none, .extract (tm 19) 0⟩,
 ⟨(some 24), none, .extract (tm 19) 1⟩,
 ⟨(some 25), none, .extract (tm 19) 2⟩,
 ⟨(some 7), none, .mov (tm 23)⟩,
 ⟨(some 8), none, .mov (tm 24)⟩,
 ⟨(some 9), none, .mov (tm 25)⟩])
 (.seq
 (.ops [⟨(some 27), none, .mov (tm 1)⟩,
 ⟨(some 28), none, .mov (tm 0)⟩,
 ⟨(some 29), none, .call 32 [(tm 27), (tm 28)] 48⟩,
 ⟨(some 26), none, .mov (tm 29)⟩,
 ⟨(some 30), none, .extract (tm 26) 0⟩,
 ⟨(some 31), none, .extract (tm 26) 1⟩,
 ⟨(some 32), none, .extract (tm 26) 2⟩,
 ⟨(some 10), none, .mov (tm 30)⟩,
 ⟨(some 11), none, .mov (tm 31)⟩,
 ⟨(some 12), none, .mov (tm 32)⟩])
 (.seq
 (.ops [⟨(some 34), none, .mov (tm 0)⟩,
 ⟨(some 35), none, .mov (tm 2)⟩,
 ⟨(some 36), none, .call 32 [(tm 34), (tm 35)] 48⟩,
 ⟨(some 33), none, .mov (tm 36)⟩,
 ⟨(some 37), none, .extract (tm 33) 0⟩,
 ⟨(some 38), none, .extract (tm 33) 1⟩,
 ⟨(some 39), none, .extract (tm 33) 2⟩,
 ⟨(some 13), none, .mov (tm 37)⟩,
 ⟨(some 14), none, .mov (tm 38)⟩,
 ⟨(some 15), none, .mov (tm 39)⟩])
 (.seq
 (.ops [⟨(some 41), none, .mov (tm 2)⟩,
 ⟨(some 42), none, .mov (tm 1)⟩,
 ⟨(some 43), none, .call 32 [(tm 41), (tm 42)] 48⟩,
 ⟨(some 40), none, .mov (tm 43)⟩,
 ⟨(some 44), none, .extract (tm 40) 0⟩,
 ⟨(some 45), none, .extract (tm 40) 1⟩,
 ⟨(some 46), none, .extract (tm 40) 2⟩,
 ⟨(some 16), none, .mov (tm 44)⟩,
 ⟨(some 17), none, .mov (tm 45)⟩,
 ⟨(some 18), none, .mov (tm 46)⟩])
 (.seq
 (.seq
 (.ops [⟨(some 47), none, .mov (tm 9)⟩,
 ⟨(some 48), none, .bin .neq 26 (tm 47) (kc 0)⟩,
 ⟨(some 49), none, .mov (tm 48)⟩,
 ⟨(some 50), some (49, false), .mov (tm 12)⟩,
 ⟨(some 51), some (49, false), .bin .neq 26 (tm 50) (kc 0)⟩,
 ⟨(some 52), none, .pick (tm 49) (.const (.bool true)) (tm 51)⟩])
 (.ite (tm 52)
 (.seq
 (.ops [⟨(some 53), none, .mov (tm 0)⟩,
 ⟨(some 54), none, .call 48 [(tm 53)] 26⟩,
 ⟨(some 55), none, .bin .neq 26 (tm 54) (kc 0)⟩,
 ⟨(some 56), none, .mov (tm 55)⟩,
 ⟨(some 57), some (56, false), .mov (tm 1)⟩,
 ⟨(some 58), some (56, false), .call 48 [(tm 57)] 26⟩,
 ⟨(some 59), some (56, false), .bin .neq 26 (tm 58) (kc 0)⟩,
 ⟨(some 60), none, .pick (tm 56) (.const (.bool true)) (tm 59)⟩,
 ⟨(some 61), none, .mov (tm 60)⟩,
 ⟨(some 62), some (61, true), .mov (tm 8)⟩,
 ⟨(some 63), some (61, true), .bin .eql 3 (tm 62) (kc 0)⟩,
 ⟨(some 64), none, .pick (tm 61) (tm 63) (.const (.bool false))⟩,
 ⟨(some 65), none, .mov (tm 64)⟩,
 ⟨(some 66), some (65, true), .mov (tm 11)⟩,
 ⟨(some 67), some (65, true), .bin .eql 3 (tm 66) (kc 0)⟩,
 ⟨(some 68), none, .pick (tm 65) (tm 67) (.const (.bool false))⟩,
 ⟨(some 69), none, .mov (tm 68)⟩,
 ⟨(some 70), some (69, true), .call 21 [] 4⟩,
 ⟨(some 71), none, .pick (tm 69) (tm 70) (.const (.bool false))⟩,
 ⟨(some 6), none, .mov (tm 71)⟩])
 .ret)
 .skip))
 (.seq
 (.seq
 (.ops [⟨(some 72), none, .mov (tm 0)⟩,
 ⟨(some 73), none, .call 48 [(tm 72)] 26⟩,
 ⟨(some 74), none, .bin .neq 26 (tm 73) (kc 0)⟩,
 ⟨(some 75), none, .mov (tm 74)⟩,
 ⟨(some 76), some (75, false), .mov (tm 1)⟩,
 ⟨(some 77), some (75, false), .call 48 [(tm 76)] 26⟩,
 ⟨(some 78), some (75, false), .bin .neq 26 (tm 77) (kc 0)⟩,
 ⟨(some 79), none, .pick (tm 75) (.const (.bool true)) (tm 78)⟩,
 ⟨(some 80), none, .mov (tm 79)⟩,
 ⟨(some 81), some (80, false), .mov (tm 8)⟩,
 ⟨(some 82), some (80, false), .mov (tm 11)⟩,
 ⟨(some 83), some (80, false), .bin .neq 3 (tm 81) (tm 82)⟩,
 ⟨(some 84), none, .pick (tm 80) (.const (.bool true)) (tm 83)⟩,
 ⟨(some 85), none, .mov (tm 84)⟩,
 ⟨(some 86), some (85, false), .mov (tm 8)⟩,
 ⟨(some 87), some (85, false), .bin .eql 3 (tm 86) (kc 0)⟩,
 ⟨(some 88), some (85, false), .mov (tm 0)⟩,
 ⟨(some 89), some (85, false), .mov (tm 1)⟩,
 ⟨(some 90), some (85, false), .call 20 [(tm 88), (tm 89)] 4⟩,
 ⟨(some 91), some (85, false), .eqT true 4 (tm 87) (tm 90)⟩,
 ⟨(some 92), none, .pick (tm 85) (.const (.bool true)) (tm 91)⟩])
 (.ite (tm 92)
 (.seq
 (.ops [⟨(some 6), none, .mov (.const (.bool false))⟩])
 .ret)
 .skip))
 (.seq
 (.seq
 (.ops [⟨(some 93), none, .mov (tm 2)⟩,
 ⟨(some 94), none, .call 48 [(tm 93)] 26⟩,
 ⟨(some 95), none, .bin .neq 26 (tm 94) (kc 0)⟩])
 (.ite (tm 95)
 (.seq
 (.ops [⟨(some 96), none, .mov (tm 15)⟩,
 ⟨(some 97), none, .bin .neq 26 (tm 96) (kc 0)⟩,
 ⟨(some 98), none, .mov (tm 97)⟩,
 ⟨(some 99), some (98, true), .mov (tm 18)⟩,
 ⟨(some 100), some (98, true), .bin .neq 26 (tm 99) (kc 0)⟩,
 ⟨(some 101), none, .pick (tm 98) (tm 100) (.const (.bool false))⟩,
 ⟨(some 102), none, .mov (tm 101)⟩,
 ⟨(some 103), some (102, true), .call 21 [] 4⟩,
 ⟨(some 104), none, .pick (tm 102) (tm 103) (.const (.bool false))⟩,
 ⟨(some 6), none, .mov (tm 104)⟩])
 .ret)
 .skip))
 (.seq
 (.ops [⟨(some 105), none, .mov (tm 15)⟩,
 ⟨(some 106), none, .bin .eql 26 (tm 105) (kc 0)⟩,
 ⟨(some 107), none, .mov (tm 106)⟩,
 ⟨(some 108), some (107, true), .mov (tm 18)⟩,
 ⟨(some 109), some (107, true), .bin .eql 26 (tm 108) (kc 0)⟩,
 ⟨(some 110), none, .pick (tm 107) (tm 109) (.const (.bool false))⟩,
 ⟨(some 111), none, .mov (tm 110)⟩,
 ⟨(some 112), some (111, true), .mov (tm 8)⟩,
 ⟨(some 113), some (111, true), .mov (tm 14)⟩,
 ⟨(some 114), some (111, true), .mov (tm 17)⟩,
 ⟨(some 115), some (111, true), .bin .add 3 (tm 113) (tm 114)⟩,
 ⟨(some 116), some (111, true), .bin .leq 3 (tm 112) (tm 115)⟩,
 ⟨(some 117), none, .pick (tm 111) (tm 116) (.const (.bool false))⟩,
 ⟨(some 118), none, .mov (tm 117)⟩,
 ⟨(some 119), some (118, true), .call 21 [] 4⟩,
 ⟨(some 120), none, .pick (tm 118) (tm 119) (.const (.bool false))⟩,
 ⟨(some 6), none, .mov (tm 120)⟩])
 .ret)))))))))
theorem fn12 : FnOK Try.prog 12 121 [.tmp 6] L12 := ⟨Try.f12, Try.func12, by kernel_rfl, Try.ntmps12, by rw [Try.results12], by kernel_rfl⟩
def L48 : LCode :=
 (.seq
 (.ops [⟨(some 2), none, .mov (kc 0)⟩])
 (.seq
 (.seq
 (.ops [⟨(some 3), none, .mov (tm 0)⟩,
 ⟨(some 4), none, .len false 29 3 (tm 3)⟩,
 ⟨(some 5), none, .bin .gtr 3 (tm 4) (kc 15)⟩])
 (.ite (tm 5)
 (.seq
 (.ops [⟨(some 2), none, .mov (kc 3)⟩])
 .ret)
 .skip))
 (.seq
 (.seq
 (.ops [⟨(some 6), none, .mov (tm 0)⟩,
 ⟨(some 7), none, .call 95 [(tm 6)] 4⟩,
 ⟨(some 8), none, .un .not (tm 7)⟩])
 (.ite (tm 8)
 (.seq
 (.ops [⟨(some 2), none, .mov (kc 6)⟩])
 .ret)
 .skip))
 (.seq
 (.ops [⟨(some 2), none, .mov (kc 0)⟩])
 .ret))))
theorem fn48 : FnOK Try.prog 48 9 [.tmp 2] L48 := ⟨Try.f48, Try.func48, by kernel_rfl, Try.ntmps48, by rw [Try.results48], by kernel_rfl⟩
def L53 : LCode :=
 (.seq
 (.ops [⟨(some 6), none, .mov (.const (.bool false))⟩])
 (.seq
 (.ops [⟨(some 7), none, .mov (tm 0)⟩,
 ⟨(some 8), none, .mov (tm 1)⟩,
 ⟨(some 9), none, .bin .geq 3 (tm 7) (tm 8)⟩,
 ⟨(some 10), none, .mov (tm 9)⟩,
 ⟨(some 11), some (10, true), .mov (tm 0)⟩,
 ⟨(some 12), some (10, true), .mov (tm 2)⟩,
 ⟨(some 13), some (10, true), .bin .leq 3 (tm 11) (tm 12)⟩,
 ⟨(some 14), none, .pick (tm 10) (tm 13) (.const (.bool false))⟩,
 ⟨(some 6), none, .mov (tm 14)⟩])
 .ret))
theorem fn53 : FnOK Try.prog 53 15 [.tmp 6] L53 := ⟨Try.f53, Try.func53, by kernel_rfl, Try.ntmps53, by rw [Try.results53], by kernel_rfl⟩
def L95 : LCode :=
 (.seq
 (.ops [⟨(some 2), none, .mov (.const (.bool false))⟩])
 (.seq
 (.ops [⟨(some 3), none, .mov (.const (.bool true))⟩])
 (.seq
 (.seq
 (.ops [⟨(some 4), none, .mov (kc 0)⟩])
 (.block 0
 (.loop
 (.seq
 (.seq
 (.ops [⟨(some 5), none, .mov (tm 4)⟩,
 ⟨(some 6), none, .mov (tm 0)⟩,
 ⟨(some 7), none, .len false 29 3 (tm 6)⟩,
 ⟨(some 8), none, .bin .lss 3 (tm 5) (tm 7)⟩])
 (.ite (tm 8)
 .skip
 (.exit 0)))
 (.seq
 (.block 1
 (.ops [⟨(some 11), none, .mov (tm 3)⟩,
 ⟨(some 12), none, .mov (tm 11)⟩,
 ⟨(some 13), some (12, true), .mov (tm 0)⟩,
 ⟨(some 14), some (12, true), .mov (tm 4)⟩,
 ⟨(some 15), some (12, true), .iaddr 29 (tm 13) (tm 14) 1⟩,
 ⟨(some 16), some (12, true), .load 9 (tm 15) none⟩,
 ⟨(some 17), some (12, true), .call 123 [(tm 16)] 4⟩,
 ⟨(some 18), none, .pick (tm 12) (tm 17) (.const (.bool false))⟩,
 ⟨(some 3), none, .mov (tm 18)⟩]))
 (.ops [⟨(some 9), none, .mov (tm 4)⟩,
 ⟨(some 10), none, .bin .add 3 (tm 9) (kc 1)⟩,
 ⟨(some 4), none, .mov (tm 10)⟩]))))))
 (.seq
 (.ops [⟨(some 19), none, .mov (tm 3)⟩,
 ⟨(some 2), none, .mov (tm 19)⟩])
 .ret))))
theorem fn95 : FnOK Try.prog 95 20 [.tmp 2] L95 := ⟨Try.f95, Try.func95, by kernel_rfl, Try.ntmps95, by rw [Try.results95], by kernel_rfl⟩
def L123 : LCode :=
 (.seq
 (.ops [⟨(some 2), none, .mov (.const (.bool false))⟩])
 (.seq
 (.seq
 (.ops [⟨(some 4), none, .mov (tm 0)⟩,
 ⟨(some 5), none, .len true 9 3 (tm 4)⟩,
 ⟨(some 6), none, .call 53 [(tm 5), (kc 1), (kc 8)] 4⟩,
 ⟨(some 7), none, .un .not (tm 6)⟩])
 (.ite (tm 7)
 (.seq
 (.ops [⟨(some 2), none, .mov (.const (.bool false))⟩])
 .ret)
 .skip))
 (.seq
 (.seq
 (.ops [⟨(some 3), none, .mov (kc 0)⟩])
 (.block 0
 (.loop
 (.seq
 (.seq
 (.ops [⟨(some 8), none, .mov (tm 3)⟩,
 ⟨(some 9), none, .mov (tm 0)⟩,
 ⟨(some 10), none, .len true 9 3 (tm 9)⟩,
 ⟨(some 11), none, .bin .lss 3 (tm 8) (tm 10)⟩])
 (.ite (tm 11)
 .skip
 (.exit 0)))
 (.seq
 (.block 1
 (.seq
 (.ops [⟨(some 14), none, .mov (tm 0)⟩,
 ⟨(some 15), none, .mov (tm 3)⟩,
 ⟨(some 16), none, .indexS 9 (tm 14) (tm 15)⟩,
 ⟨(some 17), none, .bin .lss 5 (tm 16) (.const (.int .u8 97))⟩,
 ⟨(some 18), none, .mov (tm 17)⟩,
 ⟨(some 19), some (18, false), .mov (tm 0)⟩,
 ⟨(some 20), some (18, false), .mov (tm 3)⟩,
 ⟨(some 21), some (18, false), .indexS 9 (tm 19) (tm 20)⟩,
 ⟨(some 22), some (18, false), .bin .gtr 5 (tm 21) (.const (.int .u8 122))⟩,
 ⟨(some 23), none, .pick (tm 18) (.const (.bool true)) (tm 22)⟩])
 (.ite (tm 23)
 (.seq
 (.ops [⟨(some 2), none, .mov (.const (.bool false))⟩])
 .ret)
 .skip)))
 (.ops [⟨(some 12), none, .mov (tm 3)⟩,
 ⟨(some 13), none, .bin .add 3 (tm 12) (kc 1)⟩,
 ⟨(some 3), none, .mov (tm 13)⟩]))))))
 (.seq
 (.ops [⟨(some 2), none, .mov (.const (.bool true))⟩])
 .ret))))
theorem fn123 : FnOK Try.prog 123 24 [.tmp 2] L123 := ⟨Try.f123, Try.func123, by kernel_rfl, Try.ntmps123, by rw [Try.results123], by kernel_rfl⟩
end Go.Px

namespace Go.Px
open Go.Proofs
theorem in_ev (n lo hi : Int) : Ev Try.prog 53 [I n, I lo, I hi] (B (decide (lo ≤ n) && decide (n ≤ hi))) := by
  refine Ev.intro fn53 ?_
  refine LWp.sx (gs := []) (hs := []) rfl trivial ?_
  by_cases h : lo ≤ n
  · refine LWp.sx (gs := [(10, true)]) (hs := []) rfl (by simp [h]) ?_
    refine LWp.ret (retT (.inr rfl) (.one (.tmp ?_ rfl)))
    show B _ = B _
    simp [h]
  · refine LWp.sx (gs := [(10, false)]) (hs := []) rfl (by simp [h]) ?_
    refine LWp.ret (retT (.inr rfl) (.one (.tmp ?_ rfl)))
    show B _ = B _
    simp [h]
end Go.Px

namespace Go.Px
open Go.Proofs
theorem inB_not (n lo hi : Int) : (!(decide (lo ≤ n) && decide (n ≤ hi))) = beyondB lo hi [n] := by
  rw [Bool.eq_iff_iff]; simp [beyondB]
end Go.Px

namespace Go.Px
theorem scr_all_put : ∀ ss : List Wd, Scr [] ss ss.length
  | [] => .nil
  | _ :: ss => .put (scr_all_put ss)
theorem scr_far : ∀ (ws ss : List Wd), Scr ws ss (far ws ss)
  | [], ss => scr_all_put ss
  | w :: ws, ss => by
    induction ss with
    | nil => exact .drop (scr_far ws [])
    | cons s ss ih =>
      have h1 := scr_far ws ss
      have h2 := scr_far ws (s :: ss)
      rw [far_cons]
      by_cases hf : fitB s w = true
      · rw [if_pos hf]
        rcases Nat.le_total (far ws ss) (min (1 + far ws (s :: ss)) (1 + far (w :: ws) ss)) with h | h
        · rw [Nat.min_eq_left h]; exact .keep hf h1
        · rw [Nat.min_eq_right h]
          rcases Nat.le_total (1 + far ws (s :: ss)) (1 + far (w :: ws) ss) with g | g
          · rw [Nat.min_eq_left g, Nat.add_comm]; exact .drop h2
          · rw [Nat.min_eq_right g, Nat.add_comm]; exact .put ih
      · rw [if_neg hf]
        rcases Nat.le_total (1 + far ws ss) (min (1 + far ws (s :: ss)) (1 + far (w :: ws) ss)) with h | h
        · rw [Nat.min_eq_left h, Nat.add_comm]; exact .turn h1
        · rw [Nat.min_eq_right h]
          rcases Nat.le_total (1 + far ws (s :: ss)) (1 + far (w :: ws) ss) with g | g
          · rw [Nat.min_eq_left g, Nat.add_comm]; exact .drop h2
          · rw [Nat.min_eq_right g, Nat.add_comm]; exact .put ih
theorem far_put (ws : List Wd) (s : Wd) (ss : List Wd) : far ws (s :: ss) ≤ far ws ss + 1 := by
  cases ws with
  | nil => simp [far]
  | cons w ws => rw [far_cons]; split <;> omega
theorem far_turn (w : Wd) (ws : List Wd) (s : Wd) (ss : List Wd) : far (w :: ws) (s :: ss) ≤ far ws ss + 1 := by
  rw [far_cons]; split <;> omega
theorem far_keep {w : Wd} {ws : List Wd} {s : Wd} {ss : List Wd} (h : fitB s w = true) : far (w :: ws) (s :: ss) ≤ far ws ss := by
  rw [far_cons, if_pos h]; omega
theorem far_least {ws ss : List Wd} {n : Nat} (h : Scr ws ss n) : far ws ss ≤ n := by
  induction h with
  | nil => exact Nat.le_refl _
  | keep hf _ ih => exact Nat.le_trans (far_keep hf) ih
  | turn _ ih => exact Nat.le_trans (far_turn ..) (Nat.succ_le_succ ih)
  | drop _ ih => exact Nat.le_trans (far_drop ..) (Nat.succ_le_succ ih)
  | put _ ih => exact Nat.le_trans (far_put ..) (Nat.succ_le_succ ih)
theorem fit_eq {s w : Wd} (h : s ≠ []) : fitB s w = true ↔ s = w := by
  simp [fitB, h]
theorem fit_refl (w : Wd) : fitB w w = true := by simp [fitB]
/-- By way of a third letter there are no fewer corrections. -/
theorem scr_trans {a c b : List Wd} {m n : Nat} (hc : NE c) (h : Scr a c m) (g : Scr c b n) : ∃ k, k ≤ m + n ∧ Scr a b k := by
  induction h generalizing b n with
  | nil => exact ⟨n, by omega, g⟩
  | @keep w s ws ss m hf h ih =>
    have hs : s = w := (fit_eq (hc s (by simp))).1 hf
    subst hs
    generalize hcc : s :: ss = cc at g
    induction g with
    | nil => cases hcc
    | keep hf2 g _ =>
      simp only [List.cons.injEq] at hcc
      obtain ⟨rfl, rfl⟩ := hcc
      obtain ⟨k, h1, h2⟩ := ih hc.tail g
      exact ⟨k, h1, .keep hf2 h2⟩
    | turn g _ =>
      simp only [List.cons.injEq] at hcc
      obtain ⟨rfl, rfl⟩ := hcc
      obtain ⟨k, h1, h2⟩ := ih hc.tail g
      exact ⟨k + 1, by omega, .turn h2⟩
    | drop g _ =>
      simp only [List.cons.injEq] at hcc
      obtain ⟨rfl, rfl⟩ := hcc
      obtain ⟨k, h1, h2⟩ := ih hc.tail g
      exact ⟨k + 1, by omega, .drop h2⟩
    | put _ ih2 =>
      obtain ⟨k, h1, h2⟩ := ih2 hcc
      exact ⟨k + 1, by omega, .put h2⟩
  | @turn w s ws ss m h ih =>
    generalize hcc : s :: ss = cc at g
    induction g with
    | nil => cases hcc
    | keep _ g _ =>
      simp only [List.cons.injEq] at hcc
      obtain ⟨rfl, rfl⟩ := hcc
      obtain ⟨k, h1, h2⟩ := ih hc.tail g
      exact ⟨k + 1, by omega, .turn h2⟩
    | turn g _ =>
      simp only [List.cons.injEq] at hcc
      obtain ⟨rfl, rfl⟩ := hcc
      obtain ⟨k, h1, h2⟩ := ih hc.tail g
      exact ⟨k + 1, by omega, .turn h2⟩
    | drop g _ =>
      simp only [List.cons.injEq] at hcc
      obtain ⟨rfl, rfl⟩ := hcc
      obtain ⟨k, h1, h2⟩ := ih hc.tail g
      exact ⟨k + 1, by omega, .drop h2⟩
    | put _ ih2 =>
      obtain ⟨k, h1, h2⟩ := ih2 hcc
      exact ⟨k + 1, by omega, .put h2⟩
  | drop h ih =>
    obtain ⟨k, h1, h2⟩ := ih hc g
    exact ⟨k + 1, by omega, .drop h2⟩
  | @put s ws ss m h ih =>
    generalize hcc : s :: ss = cc at g
    induction g with
    | nil => cases hcc
    | keep _ g _ =>
      simp only [List.cons.injEq] at hcc
      obtain ⟨rfl, rfl⟩ := hcc
      obtain ⟨k, h1, h2⟩ := ih hc.tail g
      exact ⟨k + 1, by omega, .put h2⟩
    | turn g _ =>
      simp only [List.cons.injEq] at hcc
      obtain ⟨rfl, rfl⟩ := hcc
      obtain ⟨k, h1, h2⟩ := ih hc.tail g
      exact ⟨k + 1, by omega, .put h2⟩
    | drop g _ =>
      simp only [List.cons.injEq] at hcc
      obtain ⟨rfl, rfl⟩ := hcc
      obtain ⟨k, h1, h2⟩ := ih hc.tail g
      exact ⟨k, by omega, h2⟩
    | put _ ih2 =>
      obtain ⟨k, h1, h2⟩ := ih2 hcc
      exact ⟨k + 1, by omega, .put h2⟩
theorem far_trans {a c b : List Wd} (hc : NE c) : far a b ≤ far a c + far c b := by
  obtain ⟨k, h1, h2⟩ := scr_trans hc (scr_far a c) (scr_far c b)
  exact Nat.le_trans (far_least h2) h1
/-- There are as many corrections back. -/
theorem scr_symm {a b : List Wd} {n : Nat} (hb : NE b) (h : Scr a b n) : Scr b a n := by
  induction h with
  | nil => exact .nil
  | @keep w s _ _ _ hf _ ih =>
    have hs : s = w := (fit_eq (hb s (by simp))).1 hf
    subst hs
    exact .keep (fit_refl _) (ih hb.tail)
  | turn _ ih => exact .turn (ih hb.tail)
  | drop _ ih => exact .put (ih hb)
  | put _ ih => exact .drop (ih hb.tail)
theorem far_symm {a b : List Wd} (ha : NE a) (hb : NE b) : far a b = far b a :=
  Nat.le_antisymm (far_least (scr_symm ha (scr_far b a))) (far_least (scr_symm hb (scr_far a b)))
theorem scr_zero {ws ss : List Wd} : Scr ws ss 0 ↔ fitL ss ws = true := by
  constructor
  · intro h
    generalize hn : 0 = n at h
    induction h with
    | nil => rfl
    | keep hf _ ih => simp [fitL, hf, ih hn]
    | turn _ _ => cases hn
    | drop _ _ => cases hn
    | put _ _ => cases hn
  · intro h
    induction ss generalizing ws with
    | nil =>
      cases ws with
      | nil => exact .nil
      | cons w ws => simp [fitL] at h
    | cons s ss ih =>
      cases ws with
      | nil => simp [fitL] at h
      | cons w ws =>
        simp only [fitL, Bool.and_eq_true] at h
        exact .keep h.1 (ih h.2)
theorem far_zero {ws ss : List Wd} : far ws ss = 0 ↔ fitL ss ws = true := by
  rw [← scr_zero]
  constructor
  · intro h; rw [← h]; exact scr_far ws ss
  · intro h; have := far_least h; omega
theorem fitL_eq {ss ws : List Wd} (h : NE ss) : fitL ss ws = true ↔ ss = ws := by
  induction ss generalizing ws with
  | nil => cases ws <;> simp [fitL]
  | cons s ss ih =>
    cases ws with
    | nil => simp [fitL]
    | cons w ws =>
      simp only [fitL, Bool.and_eq_true, List.cons.injEq]
      rw [fit_eq (h s (by simp)), ih h.tail]
theorem far_zero_eq {a b : List Wd} (hb : NE b) : far a b = 0 ↔ a = b := by
  rw [far_zero, fitL_eq hb]
  exact ⟨fun h => h.symm, fun h => h.symm⟩
end Go.Px

namespace Go.Px
theorem words_ne {l : List Wd} (h : wordsB l = true) : NE l := fun w hw => word_ne (List.all_eq_true.1 h w hw)
theorem letter_ne {l : List Wd} (h : letterE l = 0) : NE l := words_ne (letter_zero.1 h).2
end Go.Px

namespace Go.Px
open Go.Proofs
theorem inB_of (n lo hi : Int) : (decide (lo ≤ n) && decide (n ≤ hi)) = !beyondB lo hi [n] := by
  rw [← inB_not]; simp
theorem rWord_ev (l : Wd) : Ev Try.prog 123 [Str l] (B (wordB l)) := by
  refine Ev.intro fn123 ?_
  refine LWp.sx (gs := []) (hs := []) rfl trivial ?_
  have hin := in_ev l.length 1 8
  rw [inB_of] at hin
  refine LWp.seq (LWp.seq ?_)
  refine LWp.x (gs := []) (hs := [.ret (B (!beyondB 1 8 [(l.length : Int)]))]) rfl ⟨hin, trivial⟩ ?_
  have hwe := wordB_eq l
  have hb8 : beyondB 1 8 [(l.length : Int)] = false → l.length ≤ 8 := fun h => by simp [beyondB] at h; omega
  generalize beyondB 1 8 [(l.length : Int)] = bb at hwe hb8
  refine LWp.ite rfl (fun h => ?_) (fun h => LWp.skip ?_)
  · have h : bb = true := by simpa using h
    refine LWp.sx (gs := []) (hs := []) rfl trivial ?_
    refine LWp.ret (retT (.inr rfl) (.one (.tmp ?_ rfl)))
    rw [hwe, h]; rfl
  · have h : bb = false := by simpa using h
    have hl8 := hb8 h
    rw [h, Bool.not_false, Bool.true_and] at hwe
    refine LWp.seq (LWp.seq ?_)
    refine LWp.x (gs := []) (hs := []) rfl trivial ?_
    refine LWp.blockT (fun _ : Unit => l.all (fun c => lowB c.toNat) = true) (fun _ => el []) (fun _ => []) (fun _ => []) ?_ ?_
    · refine LWp.loopN (fun k : Nat => k ≤ l.length ∧ l.all (fun c => lowB c.toNat) = (l.drop k).all (fun c => lowB c.toNat)) (fun k => el [(0, Str l), (3, I k)]) (fun _ => []) (fun _ => []) (fun k => l.length - k) 0 ⟨by omega, rfl⟩
        (Ent.el ⟨rfl, rfl, trivial⟩) ?_
      rintro k ⟨hk, hi⟩
      refine LWp.seq (LWp.seq ?_)
      refine LWp.x (gs := []) (hs := []) rfl trivial ?_
      refine LWp.ite rfl (fun hc => ?_) (fun hc => ?_)
      · have hc : k < l.length := by simpa [ByteArray.size] using hc
        obtain ⟨c, hcc⟩ := ex_get hc
        rw [drop_cons hcc, List.all_cons] at hi
        refine LWp.skip ?_
        refine LWp.blockX (fun _ : Unit => lowB c.toNat = true) (fun _ => el [(0, Str l), (3, I k)]) (fun _ => []) (fun _ => []) ?_ ?_
        · have hby : (⟨l.toArray⟩ : ByteArray).data.toList[((k : Nat) : Int).toNat]? = some c := by simpa using hcc
          refine LWp.seq ?_
          by_cases h1 : (c.toNat : Int) < 97
          · have g1 : decide ((c.toNat : Int) < 97) = true := decide_eq_true h1
            refine LWp.x (gs := [(18, true)]) (hs := [.byte c]) rfl (by (repeat' (with_reducible apply And.intro)); (all_goals try first | (with_reducible exact trivial) | (with_reducible rfl) | (with_reducible assumption) | ((with_reducible apply isB); first | exact rfl | exact beq_self_eq_true _)); exact (by omega)) ?_
            refine LWp.ite (b := true) rfl (fun _ => ?_) (fun h => by cases h)
            refine LWp.sx (gs := []) (hs := []) rfl trivial ?_
            refine LWp.ret (retT (.inr rfl) (.one (.tmp ?_ rfl)))
            have : lowB c.toNat = false := by simp [lowB]; omega
            rw [hwe, hi, this]; rfl
          · have g1 : decide ((c.toNat : Int) < 97) = false := decide_eq_false h1
            refine LWp.x (gs := [(18, false)]) (hs := [.byte c, .byte c]) rfl (by (repeat' (with_reducible apply And.intro)); (all_goals try first | (with_reducible exact trivial) | (with_reducible rfl) | (with_reducible assumption) | ((with_reducible apply isB); first | exact rfl | exact beq_self_eq_true _)); exact (by omega); exact (by omega)) ?_
            refine LWp.ite rfl (fun h2 => ?_) (fun h2 => LWp.skip ?_)
            · refine LWp.sx (gs := []) (hs := []) rfl trivial ?_
              refine LWp.ret (retT (.inr rfl) (.one (.tmp ?_ rfl)))
              have : lowB c.toNat = false := by simp at h2; simp [lowB]; omega
              rw [hwe, hi, this]; rfl
            · refine ⟨(), ?_, Ent.el ⟨rfl, rfl, trivial⟩⟩
              simp at h2; simp [lowB]; omega
        · intro _ hl
          refine LWp.x (gs := []) (hs := []) rfl ⟨by omega, trivial⟩ ?_
          exact ⟨k + 1, ⟨by omega, by rw [hi, hl, Bool.true_and]⟩, by omega, Ent.el ⟨rfl, rfl, trivial⟩⟩
      · have hc : ¬ k < l.length := by simpa [ByteArray.size] using hc
        refine LWp.exit ⟨(), ?_, Ent.el trivial⟩
        rw [hi, drop_nil hc]; rfl
    · intro _ hl
      refine LWp.sx (gs := []) (hs := []) rfl trivial ?_
      refine LWp.ret (retT (.inr rfl) (.one (.tmp ?_ rfl)))
      rw [hwe, hl]
      rfl
theorem rwords_ev (l : List Wd) : Ev Try.prog 95 [strs l] (B (wordsB l)) := by
  refine Ev.intro fn95 ?_
  refine LWp.slLen 0 rfl fun hll => ?_
  simp only [List.length_map] at hll
  refine LWp.sx (gs := []) (hs := []) rfl trivial ?_
  refine LWp.sx (gs := []) (hs := []) rfl trivial ?_
  refine LWp.seq (LWp.seq ?_)
  refine LWp.x (gs := []) (hs := []) rfl trivial ?_
  refine LWp.blockT (fun _ : Unit => True) (fun _ => el [(3, B (wordsB l))]) (fun _ => []) (fun _ => []) ?_ ?_
  · refine LWp.loopN (X := Nat × Bool) (fun x => x.1 ≤ l.length ∧ wordsB l = (x.2 && wordsB (l.drop x.1))) (fun x => el [(0, strs l), (3, B x.2), (4, I x.1)]) (fun _ => []) (fun _ => []) (fun x => l.length - x.1) (0, true) ⟨by simp, by simp⟩
      (Ent.el ⟨rfl, rfl, rfl, trivial⟩) ?_
    rintro ⟨k, f⟩ ⟨hk, hi⟩
    simp only at hk hi ⊢
    refine LWp.seq (LWp.seq ?_)
    refine LWp.x (gs := []) (hs := []) rfl trivial ?_
    refine LWp.ite rfl (fun hc => ?_) (fun hc => ?_)
    · simp only [List.length_map, decide_eq_true_eq, Int.ofNat_lt] at hc
      obtain ⟨s, hs⟩ := ex_get hc
      rw [drop_cons hs] at hi
      have hi : wordsB l = ((f && wordB s) && wordsB (l.drop (k + 1))) := by rw [hi, Bool.and_assoc]; rfl
      refine LWp.skip ?_
      refine LWp.blockX (fun _ : Unit => True) (fun _ => el [(0, strs l), (3, B (f && wordB s)), (4, I k)]) (fun _ => []) (fun _ => []) ?_ ?_
      · cases f with
        | false =>
          refine LWp.x (gs := [(12, false)]) (hs := []) rfl (by (repeat' (with_reducible apply And.intro)); (all_goals try first | (with_reducible exact trivial) | (with_reducible rfl) | (with_reducible assumption) | ((with_reducible apply isB); first | exact rfl | exact beq_self_eq_true _))) ?_
          exact ⟨(), trivial, Ent.el ⟨rfl, rfl, rfl, trivial⟩⟩
        | true =>
          refine LWp.x (gs := [(12, true)]) (hs := [.cells [Str s], .ret (B (wordB s))]) rfl (by (repeat' (with_reducible apply And.intro)); (all_goals try first | (with_reducible exact trivial) | (with_reducible rfl) | (with_reducible assumption) | ((with_reducible apply isB); first | exact rfl | exact beq_self_eq_true _)); exact (by omega); exact (by simp [hs]); exact rWord_ev s) ?_
          exact ⟨(), trivial, Ent.el ⟨rfl, rfl, rfl, trivial⟩⟩
      · intro _ _
        refine LWp.x (gs := []) (hs := []) rfl ⟨by omega, trivial⟩ ?_
        exact ⟨(k + 1, f && wordB s), ⟨by simp only; omega, hi⟩, by simp only; omega, Ent.el ⟨rfl, rfl, rfl, trivial⟩⟩
    · simp only [List.length_map, decide_eq_false_iff_not, Int.ofNat_lt] at hc
      refine LWp.exit ⟨(), trivial, Ent.el ⟨?_, trivial⟩⟩
      rw [hi, drop_nil hc]
      show B _ = B _
      simp [wordsB]
  · intro _ _
    refine LWp.sx (gs := []) (hs := []) rfl trivial ?_
    refine LWp.ret (retT (.inr rfl) (.one (.tmp ?_ rfl)))
    rfl
theorem rLetter_ev (l : List Wd) : Ev Try.prog 48 [strs l] (I (letterE l)) := by
  refine Ev.intro fn48 ?_
  refine LWp.sx (gs := []) (hs := []) rfl trivial ?_
  refine LWp.seq (LWp.seq ?_)
  refine LWp.x (gs := []) (hs := []) rfl trivial ?_
  refine LWp.ite rfl (fun h => ?_) (fun h => LWp.skip ?_)
  · have h : 15 < l.length := by simp at h; omega
    refine LWp.sx (gs := []) (hs := []) rfl trivial ?_
    refine LWp.ret (retT (.inr rfl) (.one (.tmp ?_ rfl)))
    show I _ = I _
    unfold letterE
    rw [if_pos h]
  · have h : ¬ 15 < l.length := by simp at h; omega
    refine LWp.seq (LWp.seq ?_)
    refine LWp.x (gs := []) (hs := [.ret (B (wordsB l))]) rfl ⟨rwords_ev l, trivial⟩ ?_
    refine LWp.ite rfl (fun hw => ?_) (fun hw => LWp.skip ?_)
    · have hw : wordsB l = false := by simpa using hw
      refine LWp.sx (gs := []) (hs := []) rfl trivial ?_
      refine LWp.ret (retT (.inr rfl) (.one (.tmp ?_ rfl)))
      show I _ = I _
      unfold letterE
      rw [if_neg h, if_neg (by simp [hw])]
    · have hw : wordsB l = true := by simpa using hw
      refine LWp.sx (gs := []) (hs := []) rfl trivial ?_
      refine LWp.ret (retT (.inr rfl) (.one (.tmp ?_ rfl)))
      show I _ = I _
      unfold letterE
      rw [if_neg h, if_pos hw]
end Go.Px

namespace Go.Px
open Go.Proofs
theorem ub : Try.prog.underlying 4 = some .bool := by kernel_rfl
theorem fewestR_bad {A C : List Wd} (h : fewestE A C ≠ 0) : fewestR A C = ([], 0, fewestE A C) := by unfold fewestR; rw [if_neg h]
theorem fewestR_good {A C : List Wd} (hA : letterE A = 0) (hC : letterE C = 0) : fewestR A C = (marksF (A.length + C.length) A C, ((far A C : Nat) : Int), 0) := by
  unfold fewestR
  rw [if_pos (fewestE_zero.2 ⟨hA, hC⟩)]
set_option maxRecDepth 20000 in
theorem letterBack_ev (A C G : List Wd) : Ev Try.prog 12 [strs A, strs C, strs G] (B true) := by
  have e1 := fewest_ev A C
  have e2 := fewest_ev C A
  have e3 := fewest_ev A G
  have e4 := fewest_ev G C
  have l1 := rLetter_ev A
  have l2 := rLetter_ev C
  have l3 := rLetter_ev G
  have hs := rsame_ev A C
  refine Ev.intro fn12 ?_
  by_cases h : letterE A = 0 ∧ letterE C = 0
  · obtain ⟨hA, hC⟩ := h
    rw [fewestR_good hA hC] at e1
    rw [fewestR_good hC hA, far_symm (letter_ne hC) (letter_ne hA)] at e2
    rw [hA] at l1
    rw [hC] at l2
    have hz : (A == C) = ((far A C : Nat) == 0) := by
      rw [Bool.eq_iff_iff, beq_iff_eq, beq_iff_eq]
      exact (far_zero_eq (letter_ne hC)).symm
    have hf := far_le A C
    have h1 := (letter_zero.1 hA).1
    have h2 := (letter_zero.1 hC).1
    generalize marksF (A.length + C.length) A C = M1 at e1
    generalize marksF (C.length + A.length) C A = M2 at e2
    by_cases hG : letterE G = 0
    · rw [fewestR_good hA hG] at e3
      rw [fewestR_good hG hC] at e4
      rw [hG] at l3
      have ht := far_trans (a := A) (c := G) (b := C) (letter_ne hG)
      have f2 := far_le A G
      have f3 := far_le G C
      have h3 := (letter_zero.1 hG).1
      generalize marksF (A.length + G.length) A G = M3 at e3
      generalize marksF (G.length + C.length) G C = M4 at e4
      generalize far A C = n at e1 e2 hz hf ht
      generalize far A G = n2 at e3 f2 ht
      generalize far G C = n3 at e4 f3 ht
      refine LWp.sx (gs := []) (hs := []) rfl trivial ?_
      refine LWp.sx (gs := []) (hs := [.ret (.tup [marksV M1, I n, I 0])]) rfl ⟨e1, trivial⟩ ?_
      refine LWp.sx (gs := []) (hs := [.ret (.tup [marksV M2, I n, I 0])]) rfl ⟨e2, trivial⟩ ?_
      refine LWp.sx (gs := []) (hs := [.ret (.tup [marksV M3, I n2, I 0])]) rfl ⟨e3, trivial⟩ ?_
      refine LWp.sx (gs := []) (hs := [.ret (.tup [marksV M4, I n3, I 0])]) rfl ⟨e4, trivial⟩ ?_
      refine LWp.seq (LWp.seq ?_)
      refine LWp.x (gs := [(49, false)]) (hs := []) rfl (by (repeat' (with_reducible apply And.intro)); (all_goals try first | (with_reducible exact trivial) | (with_reducible rfl) | (with_reducible assumption) | ((with_reducible apply isB); first | exact rfl | exact beq_self_eq_true _))) ?_
      refine LWp.ite (b := false) rfl (fun h => by cases h) (fun _ => LWp.skip ?_)
      rw [hz] at hs
      generalize hb : ((n : Nat) == 0) = b at hs
      have hn : ((n : Int) == 0) = b := by rw [← hb, Bool.eq_iff_iff, beq_iff_eq, beq_iff_eq]; omega
      have hnn : ((n : Int) != (n : Int)) = false := by simp
      refine LWp.seq (LWp.seq ?_)
      refine LWp.x (gs := [(75, false), (80, false), (85, false)]) (hs := [.ret (I 0), .ret (I 0), .ret (B b)]) rfl (by (repeat' (with_reducible apply And.intro)); (all_goals try first | (with_reducible exact trivial) | (with_reducible rfl) | (with_reducible assumption) | ((with_reducible apply isB); first | exact rfl | exact beq_self_eq_true _)); exact l1; exact l2; exact hs; exact ub) ?_
      refine LWp.ite (b := false) (by show B _ = B _; rw [hn]; simp) (fun h => by cases h) (fun _ => LWp.skip ?_)
      refine LWp.seq (LWp.seq ?_)
      refine LWp.x (gs := []) (hs := [.ret (I 0)]) rfl ⟨l3, trivial⟩ ?_
      refine LWp.ite (b := false) rfl (fun h => by cases h) (fun _ => LWp.skip ?_)
      have hle : decide ((n : Int) ≤ (n2 : Int) + (n3 : Int)) = true := decide_eq_true (by omega)
      refine LWp.sx (gs := [(107, true), (111, true), (118, true)]) (hs := [.ret (B true)]) rfl (by (repeat' (with_reducible apply And.intro)); (all_goals first | (with_reducible exact trivial) | (with_reducible rfl) | (with_reducible assumption) | ((with_reducible apply isB); first | exact rfl | exact beq_self_eq_true _) | omega | ((first | exact awake_ev | exact l1 | exact l2)))) ?_
      refine LWp.ret (retT (.inr rfl) (.one (.tmp ?_ rfl)))
      rfl
    · have hb3 : fewestE A G ≠ 0 := fun h => hG (fewestE_zero.1 h).2
      have hb4 : fewestE G C ≠ 0 := fun h => hG (fewestE_zero.1 h).1
      rw [fewestR_bad hb3] at e3
      rw [fewestR_bad hb4] at e4
      generalize fewestE A G = r3 at hb3 e3
      generalize fewestE G C = r4 at hb4 e4
      generalize letterE G = r5 at l3 hG
      generalize far A C = n at e1 e2 hz hf
      refine LWp.sx (gs := []) (hs := []) rfl trivial ?_
      refine LWp.sx (gs := []) (hs := [.ret (.tup [marksV M1, I n, I 0])]) rfl ⟨e1, trivial⟩ ?_
      refine LWp.sx (gs := []) (hs := [.ret (.tup [marksV M2, I n, I 0])]) rfl ⟨e2, trivial⟩ ?_
      refine LWp.sx (gs := []) (hs := [.ret (.tup [marksV [], I 0, I r3])]) rfl ⟨e3, trivial⟩ ?_
      refine LWp.sx (gs := []) (hs := [.ret (.tup [marksV [], I 0, I r4])]) rfl ⟨e4, trivial⟩ ?_
      refine LWp.seq (LWp.seq ?_)
      refine LWp.x (gs := [(49, false)]) (hs := []) rfl (by (repeat' (with_reducible apply And.intro)); (all_goals try first | (with_reducible exact trivial) | (with_reducible rfl) | (with_reducible assumption) | ((with_reducible apply isB); first | exact rfl | exact beq_self_eq_true _))) ?_
      refine LWp.ite (b := false) rfl (fun h => by cases h) (fun _ => LWp.skip ?_)
      rw [hz] at hs
      generalize hb : ((n : Nat) == 0) = b at hs
      have hn : ((n : Int) == 0) = b := by rw [← hb, Bool.eq_iff_iff, beq_iff_eq, beq_iff_eq]; omega
      have hnn : ((n : Int) != (n : Int)) = false := by simp
      refine LWp.seq (LWp.seq ?_)
      refine LWp.x (gs := [(75, false), (80, false), (85, false)]) (hs := [.ret (I 0), .ret (I 0), .ret (B b)]) rfl (by (repeat' (with_reducible apply And.intro)); (all_goals try first | (with_reducible exact trivial) | (with_reducible rfl) | (with_reducible assumption) | ((with_reducible apply isB); first | exact rfl | exact beq_self_eq_true _)); exact l1; exact l2; exact hs; exact ub) ?_
      refine LWp.ite (b := false) (by show B _ = B _; rw [hn]; simp) (fun h => by cases h) (fun _ => LWp.skip ?_)
      refine LWp.seq (LWp.seq ?_)
      refine LWp.x (gs := []) (hs := [.ret (I r5)]) rfl ⟨l3, trivial⟩ ?_
      refine LWp.ite (b := true) (by show B _ = B _; exact congrArg B (by rw [bne_iff_ne]; exact hG)) (fun _ => ?_) (fun h => by cases h)
      have g3 : (r3 != 0) = true := by rw [bne_iff_ne]; exact hb3
      have g4 : (r4 != 0) = true := by rw [bne_iff_ne]; exact hb4
      refine LWp.sx (gs := [(98, true), (102, true)]) (hs := [.ret (B true)]) rfl (by (repeat' (with_reducible apply And.intro)); (all_goals first | (with_reducible exact trivial) | (with_reducible rfl) | (with_reducible assumption) | ((with_reducible apply isB); first | exact rfl | exact beq_self_eq_true _) | omega | ((first | exact awake_ev | exact l1 | exact l2)))) ?_
      refine LWp.ret (retT (.inr rfl) (.one (.tmp ?_ rfl)))
      rfl
  · have hb1 : fewestE A C ≠ 0 := fun g => h (fewestE_zero.1 g)
    have hb2 : fewestE C A ≠ 0 := fun g => h (fewestE_zero.1 g).symm
    rw [fewestR_bad hb1] at e1
    rw [fewestR_bad hb2] at e2
    generalize fewestE A C = r1 at hb1 e1
    generalize fewestE C A = r2 at hb2 e2
    generalize (fewestR A G).1 = M3 at e3
    generalize (fewestR A G).2.1 = n3 at e3
    generalize (fewestR A G).2.2 = r3 at e3
    generalize (fewestR G C).1 = M4 at e4
    generalize (fewestR G C).2.1 = n4 at e4
    generalize (fewestR G C).2.2 = r4 at e4
    generalize letterE A = x1 at l1 h
    generalize letterE C = x2 at l2 h
    have g1 : (r1 != 0) = true := by rw [bne_iff_ne]; exact hb1
    refine LWp.sx (gs := []) (hs := []) rfl trivial ?_
    refine LWp.sx (gs := []) (hs := [.ret (.tup [marksV [], I 0, I r1])]) rfl ⟨e1, trivial⟩ ?_
    refine LWp.sx (gs := []) (hs := [.ret (.tup [marksV [], I 0, I r2])]) rfl ⟨e2, trivial⟩ ?_
    refine LWp.sx (gs := []) (hs := [.ret (.tup [marksV M3, I n3, I r3])]) rfl ⟨e3, trivial⟩ ?_
    refine LWp.sx (gs := []) (hs := [.ret (.tup [marksV M4, I n4, I r4])]) rfl ⟨e4, trivial⟩ ?_
    refine LWp.seq (LWp.seq ?_)
    refine LWp.x (gs := [(49, true)]) (hs := []) rfl (by (repeat' (with_reducible apply And.intro)); (all_goals try first | (with_reducible exact trivial) | (with_reducible rfl) | (with_reducible assumption) | ((with_reducible apply isB); first | exact rfl | exact beq_self_eq_true _))) ?_
    refine LWp.ite (b := true) rfl (fun _ => ?_) (fun h => by cases h)
    by_cases hx1 : x1 = 0
    · have hx2 : x2 ≠ 0 := fun g => h ⟨hx1, g⟩
      have k1 : (x1 != 0) = false := by rw [hx1]; rfl
      have k2 : (x2 != 0) = true := by rw [bne_iff_ne]; exact hx2
      refine LWp.sx (gs := [(56, false), (61, true), (65, true), (69, true)]) (hs := [.ret (I x1), .ret (I x2), .ret (B true)]) rfl (by (repeat' (with_reducible apply And.intro)); (all_goals first | (with_reducible exact trivial) | (with_reducible rfl) | (with_reducible assumption) | ((with_reducible apply isB); first | exact rfl | exact beq_self_eq_true _) | omega | ((first | exact awake_ev | exact l1 | exact l2)))) ?_
      refine LWp.ret (retT (.inr rfl) (.one (.tmp ?_ rfl)))
      rfl
    · have k1 : (x1 != 0) = true := by rw [bne_iff_ne]; exact hx1
      refine LWp.sx (gs := [(56, true), (61, true), (65, true), (69, true)]) (hs := [.ret (I x1), .ret (B true)]) rfl (by (repeat' (with_reducible apply And.intro)); (all_goals first | (with_reducible exact trivial) | (with_reducible rfl) | (with_reducible assumption) | ((with_reducible apply isB); first | exact rfl | exact beq_self_eq_true _) | omega | ((first | exact awake_ev | exact l1 | exact l2)))) ?_
      refine LWp.ret (retT (.inr rfl) (.one (.tmp ?_ rfl)))
      rfl
end Go.Px

