/- Part 1 of the proofs of the outright statements of this seat (functions lowered, plain laws, contracts). No conditions. -/
import Derived.Test.YtgcdemklhalbhaaA15
namespace Go.Px

section
variable {C : Ctx} {env : Env} {H : Heap} {D : List Nat} {a : Act} {w : World} {S : Snap} {L : Nat → Option Nat}

/-- What a block holds is said otherwise. -/
theorem Sat.resay (hs : Sat C env H D a w S L) {j b : Nat} {x y : HObj} (hH : H[j]? = some (b, x)) (h : ∀ o, Holds S x o → Holds S y o) : Sat C env (H.set j (b, y)) D a w S L := by
  have hk : (H.set j (b, y)).map (·.1) = H.map (·.1) := by
    apply List.ext_getElem?
    intro k
    rw [List.getElem?_map, List.getElem?_map, List.getElem?_set]
    by_cases e : j = k
    · subst e
      rw [if_pos rfl, if_pos (get_lt hH), hH]; rfl
    · rw [if_neg e]
  refine { hs with heap := ?_, nodup := ?_, lin := ?_ }
  · intro e he
    rcases List.mem_or_eq_of_mem_set he with he | rfl
    · exact hs.heap e he
    · have ho := hs.at_ hH
      obtain ⟨o, h1, h2⟩ := ho.holds
      exact ⟨ho.base, ho.apart, o, h1, h o h2⟩
  · rw [List.map_append, hk, ← List.map_append]; exact hs.nodup
  · intro t g e
    rw [List.map_append, hk, ← List.map_append]; exact hs.lin t g e
end

/-- What bears a list of the call's own, and what bears it when it is written no more. -/
def SubS (b n cap kk : Nat) (es : List (List AV)) (p q : AV) : Prop := p = q ∨ (p = .so b n cap ∧ q = .sl kk es)
theorem subS_rep {S : Snap} {b n cap kk : Nat} {es : List (List AV)} (h : ∀ y, Rep S (.so b n cap) y → Rep S (.sl kk es) y) : ∀ {cs cs' : List AV} {l : List Value}, All2 (SubS b n cap kk es) cs cs' → RepL S cs l → RepL S cs' l
  | [], [], l, _, hr => by simp only [RepL] at hr ⊢; exact hr
  | p :: cs, q :: cs', l, h2, hr => by
    simp only [RepL] at hr ⊢
    obtain ⟨c, l', e, h3, h4⟩ := hr
    refine ⟨c, l', e, ?_, subS_rep h h2.2 h4⟩
    rcases h2.1 with rfl | ⟨rfl, rfl⟩
    · exact h3
    · exact h c h3
  | [], _ :: _, _, h2, _ => h2.elim
  | _ :: _, [], _, h2, _ => h2.elim

section
variable {env : Env} {H : Heap} {D : List Nat}
/-- A list of the call's own that a variable bears is written no more. -/
theorem Ent.freezeArrAt {i j b T kk cap bo To : Nat} {es : List (List AV)} {cs : List AV} (cs' : List AV) (hH : H[i]? = some (b, .arr T kk cap es)) (hj : (H.eraseIdx i)[j]? = some (bo, .cells To cs)) (h : All2 (SubS b es.length cap kk es) cs cs') :
    Ent env H D env ((H.eraseIdx i).set j (bo, .cells To cs')) D := by
  intro C a w S L hs
  obtain ⟨cur, hrow, hc1, hc2, hc3, hk, hr, h1⟩ := (hs.at_ hH).arr
  have hs1 := hs.freeze hH hrow
  refine ⟨_, L, Snap.addRow_le (hs.at_ hH).apart, hs1.resay hj ?_⟩
  rintro o ⟨l, rfl, h2, h3⟩
  refine ⟨l, rfl, subS_rep ?_ h h2, h3⟩
  intro y hy
  simp only [Rep] at hy ⊢
  refine .inr ⟨b, 0, cap, hy, hc2, hc3, repE_of_row (l := cur.take (es.length * kk)) (RepL.mono (Snap.addRow_le (hs.at_ hH).apart) _ _ hr) hk h1 (fun j c hj => ?_)⟩
  rw [List.getElem?_take] at hj
  split at hj
  · simp [Snap.addRow, hj]
  · cases hj
/-- What a variable bears is said otherwise. -/
theorem Ent.cellsSub {j bo To : Nat} {cs : List AV} (cs' : List AV) (hj : H[j]? = some (bo, .cells To cs)) (h : All2 SubA cs cs') : Ent env H D env (H.set j (bo, .cells To cs')) D := by
  intro C a w S L hs
  refine ⟨S, L, Snap.Le.refl S, hs.resay hj ?_⟩
  rintro o ⟨l, rfl, h2, h3⟩
  exact ⟨l, rfl, subL_of h h2, h3⟩
end
end Go.Px

namespace Go.Px
open Go.Proofs
set_option maxRecDepth 100000

def L9 : LCode :=
 (.seq
 (.ops [⟨(some 3), none, .box 25 (tm 0)⟩,
 ⟨(some 4), none, .box 50 (tm 1)⟩,
 ⟨(some 6), none, .mov (.const (.bool false))⟩])
 (.seq
 (.seq
 (.ops [⟨(some 25), none, .load 25 (tm 3) (some 3)⟩,
 ⟨(some 26), none, .call 38 [(tm 25)] 4⟩,
 ⟨(some 27), none, .un .not (tm 26)⟩,
 ⟨(some 28), none, .mov (tm 27)⟩,
 ⟨(some 29), some (28, false), .faddr 25 (tm 3) 2 2⟩,
 ⟨(some 30), some (28, false), .load 23 (tm 29) none⟩,
 ⟨(some 31), some (28, false), .len false 23 3 (tm 30)⟩,
 ⟨(some 32), some (28, false), .bin .eql 3 (tm 31) (kc 0)⟩,
 ⟨(some 33), none, .pick (tm 28) (.const (.bool true)) (tm 32)⟩])
 (.ite (tm 33)
 (.seq
 (.ops [⟨(some 35), none, .load 25 (tm 3) (some 3)⟩,
 ⟨(some 36), none, .call 22 [(tm 35), (kc 0)] 33⟩,
 ⟨(some 34), none, .mov (tm 36)⟩,
 ⟨(some 37), none, .extract (tm 34) 0⟩,
 ⟨(some 38), none, .extract (tm 34) 1⟩,
 ⟨(some 7), none, .mov (tm 37)⟩,
 ⟨(some 8), none, .mov (tm 38)⟩])
 (.seq
 (.ops [⟨(some 39), none, .mov (tm 8)⟩,
 ⟨(some 40), none, .bin .neq 26 (tm 39) (kc 0)⟩,
 ⟨(some 41), none, .mov (tm 40)⟩,
 ⟨(some 42), some (41, true), .call 21 [] 4⟩,
 ⟨(some 43), none, .pick (tm 41) (tm 42) (.const (.bool false))⟩,
 ⟨(some 6), none, .mov (tm 43)⟩])
 .ret))
 .skip))
 (.seq
 (.dops [(⟨(some 44), none, .iaddrA 50 (tm 4) (kc 0) 2 1⟩, []),
 (⟨(some 45), none, .load 5 (tm 44) none⟩, [0]),
 (⟨(some 46), none, .toInt .i64 5 3 (tm 45)⟩, [1]),
 (⟨(some 47), none, .faddr 25 (tm 3) 2 2⟩, []),
 (⟨(some 48), none, .load 23 (tm 47) none⟩, [3]),
 (⟨(some 49), none, .len false 23 3 (tm 48)⟩, [4]),
 (⟨(some 50), none, .bin .rem 3 (tm 46) (tm 49)⟩, [2, 5]),
 (⟨(some 51), none, .iaddrA 50 (tm 4) (kc 1) 2 1⟩, []),
 (⟨(some 52), none, .load 5 (tm 51) none⟩, [7]),
 (⟨(some 53), none, .toInt .i64 5 3 (tm 52)⟩, [8]),
 (⟨(some 54), none, .faddr 25 (tm 3) 2 2⟩, []),
 (⟨(some 55), none, .load 23 (tm 54) none⟩, [10]),
 (⟨(some 56), none, .len false 23 3 (tm 55)⟩, [11]),
 (⟨(some 57), none, .bin .rem 3 (tm 53) (tm 56)⟩, [9, 12]),
 (⟨(some 9), none, .mov (tm 50)⟩, [6, 0, 1, 2, 3, 4, 5, 6]),
 (⟨(some 10), none, .mov (tm 57)⟩, [13, 14, 0, 1, 2, 3, 4, 5, 6, 7, 8, 9, 10, 11, 12, 13, 14])])
 (.seq
 (.dops [(⟨(some 58), none, .load 25 (tm 3) (some 3)⟩, []),
 (⟨(some 59), none, .faddr 25 (tm 3) 2 2⟩, []),
 (⟨(some 60), none, .load 23 (tm 59) none⟩, [1]),
 (⟨(some 61), none, .mov (tm 9)⟩, []),
 (⟨(some 62), none, .iaddr 23 (tm 60) (tm 61) 2⟩, [2, 3]),
 (⟨(some 63), none, .load 55 (tm 62) (some 2)⟩, [4]),
 (⟨(some 64), none, .mov (tm 2)⟩, []),
 (⟨(some 65), none, .call 39 [(tm 58), (tm 63), (tm 64)] 32⟩, [0, 5, 6]),
 (⟨(some 11), none, .mov (tm 65)⟩, [7, 7, 0, 1, 2, 3, 4, 5, 6, 7])])
 (.seq
 (.ops [⟨(some 67), none, .load 25 (tm 3) (some 3)⟩,
 ⟨(some 68), none, .mov (tm 9)⟩,
 ⟨(some 69), none, .mov (tm 11)⟩,
 ⟨(some 70), none, .call 27 [(tm 67), (tm 68), (tm 69)] 38⟩,
 ⟨(some 66), none, .mov (tm 70)⟩,
 ⟨(some 71), none, .extract (tm 66) 0⟩,
 ⟨(some 72), none, .extract (tm 66) 1⟩,
 ⟨(some 12), none, .mov (tm 71)⟩,
 ⟨(some 13), none, .mov (tm 72)⟩])
 (.seq
 (.ops [⟨(some 74), none, .load 25 (tm 3) (some 3)⟩,
 ⟨(some 75), none, .mov (tm 9)⟩,
 ⟨(some 76), none, .call 22 [(tm 74), (tm 75)] 33⟩,
 ⟨(some 73), none, .mov (tm 76)⟩,
 ⟨(some 77), none, .extract (tm 73) 0⟩,
 ⟨(some 78), none, .extract (tm 73) 1⟩,
 ⟨(some 14), none, .mov (tm 77)⟩,
 ⟨(some 15), none, .mov (tm 78)⟩])
 (.seq
 (.ops [⟨(some 80), none, .load 25 (tm 3) (some 3)⟩,
 ⟨(some 81), none, .mov (tm 9)⟩,
 ⟨(some 82), none, .call 24 [(tm 80), (tm 81)] 35⟩,
 ⟨(some 79), none, .mov (tm 82)⟩,
 ⟨(some 83), none, .extract (tm 79) 0⟩,
 ⟨(some 84), none, .extract (tm 79) 1⟩,
 ⟨(some 16), none, .mov (tm 83)⟩,
 ⟨(some 17), none, .mov (tm 84)⟩])
 (.seq
 (.seq
 (.ops [⟨(some 85), none, .mov (tm 13)⟩,
 ⟨(some 86), none, .bin .neq 26 (tm 85) (kc 0)⟩,
 ⟨(some 87), none, .mov (tm 86)⟩,
 ⟨(some 88), some (87, false), .mov (tm 15)⟩,
 ⟨(some 89), some (87, false), .bin .neq 26 (tm 88) (kc 0)⟩,
 ⟨(some 90), none, .pick (tm 87) (.const (.bool true)) (tm 89)⟩,
 ⟨(some 91), none, .mov (tm 90)⟩,
 ⟨(some 92), some (91, false), .mov (tm 17)⟩,
 ⟨(some 93), some (91, false), .bin .neq 26 (tm 92) (kc 0)⟩,
 ⟨(some 94), none, .pick (tm 91) (.const (.bool true)) (tm 93)⟩,
 ⟨(some 95), none, .mov (tm 94)⟩,
 ⟨(some 96), some (95, false), .mov (tm 12)⟩,
 ⟨(some 97), some (95, false), .un .not (tm 96)⟩,
 ⟨(some 98), none, .pick (tm 95) (.const (.bool true)) (tm 97)⟩,
 ⟨(some 99), none, .mov (tm 98)⟩,
 ⟨(some 100), some (99, false), .mov (tm 14)⟩,
 ⟨(some 101), some (99, false), .bin .lss 3 (tm 100) (kc 1)⟩,
 ⟨(some 102), none, .pick (tm 99) (.const (.bool true)) (tm 101)⟩,
 ⟨(some 103), none, .mov (tm 102)⟩,
 ⟨(some 104), some (103, false), .mov (tm 11)⟩,
 ⟨(some 105), some (103, false), .mov (tm 16)⟩,
 ⟨(some 106), some (103, false), .call 40 [(tm 104), (tm 105)] 4⟩,
 ⟨(some 107), none, .pick (tm 103) (.const (.bool true)) (tm 106)⟩])
 (.ite (tm 107)
 (.seq
 (.ops [⟨(some 6), none, .mov (.const (.bool false))⟩])
 .ret)
 .skip))
 (.seq
 (.ops [⟨(some 109), none, .load 25 (tm 3) (some 3)⟩,
 ⟨(some 110), none, .mov (tm 10)⟩,
 ⟨(some 111), none, .mov (tm 11)⟩,
 ⟨(some 112), none, .call 27 [(tm 109), (tm 110), (tm 111)] 38⟩,
 ⟨(some 108), none, .mov (tm 112)⟩,
 ⟨(some 113), none, .extract (tm 108) 0⟩,
 ⟨(some 114), none, .extract (tm 108) 1⟩,
 ⟨(some 18), none, .mov (tm 113)⟩,
 ⟨(some 19), none, .mov (tm 114)⟩])
 (.seq
 (.seq
 (.ops [⟨(some 115), none, .mov (tm 19)⟩,
 ⟨(some 116), none, .bin .neq 26 (tm 115) (kc 0)⟩])
 (.ite (tm 116)
 (.seq
 (.ops [⟨(some 6), none, .mov (.const (.bool false))⟩])
 .ret)
 .skip))
 (.seq
 (.seq
 (.ops [⟨(some 117), none, .mov (tm 18)⟩,
 ⟨(some 118), none, .un .not (tm 117)⟩,
 ⟨(some 119), none, .mov (tm 118)⟩,
 ⟨(some 120), some (119, false), .mov (tm 9)⟩,
 ⟨(some 121), some (119, false), .mov (tm 10)⟩,
 ⟨(some 122), some (119, false), .bin .eql 3 (tm 120) (tm 121)⟩,
 ⟨(some 123), none, .pick (tm 119) (.const (.bool true)) (tm 122)⟩])
 (.ite (tm 123)
 (.seq
 (.ops [⟨(some 124), none, .call 21 [] 4⟩,
 ⟨(some 6), none, .mov (tm 124)⟩])
 .ret)
 .skip))
 (.seq
 (.ops [⟨(some 126), none, .load 25 (tm 3) (some 3)⟩,
 ⟨(some 127), none, .mov (tm 9)⟩,
 ⟨(some 128), none, .mov (tm 10)⟩,
 ⟨(some 129), none, .call 29 [(tm 126), (tm 127), (tm 128)] 33⟩,
 ⟨(some 125), none, .mov (tm 129)⟩,
 ⟨(some 130), none, .extract (tm 125) 0⟩,
 ⟨(some 131), none, .extract (tm 125) 1⟩,
 ⟨(some 20), none, .mov (tm 130)⟩,
 ⟨(some 21), none, .mov (tm 131)⟩])
 (.seq
 (.ops [⟨(some 132), none, .load 25 (tm 3) (some 3)⟩,
 ⟨(some 22), none, .alloc 25 [(.int .i64 0), (.slice none 0 0), (.slice none 0 0)]⟩,
 ⟨none, none, .store 25 (tm 22) (tm 132) 3⟩])
 (.seq
 (.dops [(⟨(some 133), none, .faddr 25 (tm 3) 2 2⟩, []),
 (⟨(some 134), none, .load 23 (tm 133) none⟩, [0]),
 (⟨(some 135), none, .mov (tm 9)⟩, []),
 (⟨(some 136), none, .iaddr 23 (tm 134) (tm 135) 2⟩, [1, 2]),
 (⟨(some 137), none, .load 55 (tm 136) (some 2)⟩, [3]),
 (⟨(some 138), none, .faddr 25 (tm 3) 2 2⟩, []),
 (⟨(some 139), none, .load 23 (tm 138) none⟩, [5]),
 (⟨(some 140), none, .mov (tm 10)⟩, []),
 (⟨(some 141), none, .iaddr 23 (tm 139) (tm 140) 2⟩, [6, 7]),
 (⟨(some 142), none, .load 55 (tm 141) (some 2)⟩, [8]),
 (⟨(some 143), none, .bslice 23 2 [(0, (tm 137)), (1, (tm 142))] 55 2 [(.int .i64 0), (.string ⟨#[]⟩)]⟩, [4, 9]),
 (⟨(some 144), none, .faddr 25 (tm 22) 2 2⟩, [0, 1, 2, 3, 4, 5, 6, 7, 8, 9, 10]),
 (⟨none, none, .store 23 (tm 144) (tm 143) 1⟩, [11, 10, 0, 1, 2, 3, 4, 5, 6, 7, 8, 9, 10])])
 (.seq
 (.ops [⟨(some 146), none, .load 25 (tm 22) (some 3)⟩,
 ⟨(some 147), none, .call 31 [(tm 146)] 35⟩,
 ⟨(some 145), none, .mov (tm 147)⟩,
 ⟨(some 148), none, .extract (tm 145) 0⟩,
 ⟨(some 149), none, .extract (tm 145) 1⟩,
 ⟨(some 23), none, .mov (tm 148)⟩,
 ⟨(some 24), none, .mov (tm 149)⟩])
 (.seq
 (.ops [⟨(some 150), none, .mov (tm 21)⟩,
 ⟨(some 151), none, .bin .eql 26 (tm 150) (kc 0)⟩,
 ⟨(some 152), none, .mov (tm 151)⟩,
 ⟨(some 153), some (152, true), .mov (tm 20)⟩,
 ⟨(some 154), some (152, true), .bin .neq 3 (tm 153) (kc 2)⟩,
 ⟨(some 155), none, .pick (tm 152) (tm 154) (.const (.bool false))⟩,
 ⟨(some 156), none, .mov (tm 155)⟩,
 ⟨(some 157), some (156, true), .mov (tm 24)⟩,
 ⟨(some 158), some (156, true), .bin .eql 26 (tm 157) (kc 0)⟩,
 ⟨(some 159), none, .pick (tm 156) (tm 158) (.const (.bool false))⟩,
 ⟨(some 160), none, .mov (tm 159)⟩,
 ⟨(some 161), some (160, true), .mov (tm 23)⟩,
 ⟨(some 162), some (160, true), .len false 32 3 (tm 161)⟩,
 ⟨(some 163), some (160, true), .bin .eql 3 (tm 162) (kc 0)⟩,
 ⟨(some 164), none, .pick (tm 160) (tm 163) (.const (.bool false))⟩,
 ⟨(some 165), none, .mov (tm 164)⟩,
 ⟨(some 166), some (165, true), .call 21 [] 4⟩,
 ⟨(some 167), none, .pick (tm 165) (tm 166) (.const (.bool false))⟩,
 ⟨(some 6), none, .mov (tm 167)⟩])
 .ret))))))))))))))))
theorem fn9 : FnOK Try.prog 9 168 [.tmp 6] L9 := ⟨Try.f9, Try.func9, by kernel_rfl, Try.ntmps9, by rw [Try.results9], by kernel_rfl⟩
def L10 : LCode :=
 (.seq
 (.ops [⟨(some 2), none, .box 25 (tm 0)⟩,
 ⟨(some 3), none, .box 57 (tm 1)⟩,
 ⟨(some 4), none, .mov (.const (.bool false))⟩])
 (.seq
 (.seq
 (.ops [⟨(some 20), none, .load 25 (tm 2) (some 3)⟩,
 ⟨(some 21), none, .call 38 [(tm 20)] 4⟩,
 ⟨(some 22), none, .un .not (tm 21)⟩,
 ⟨(some 23), none, .mov (tm 22)⟩,
 ⟨(some 24), some (23, false), .faddr 25 (tm 2) 2 2⟩,
 ⟨(some 25), some (23, false), .load 23 (tm 24) none⟩,
 ⟨(some 26), some (23, false), .len false 23 3 (tm 25)⟩,
 ⟨(some 27), some (23, false), .bin .lss 3 (tm 26) (kc 2)⟩,
 ⟨(some 28), none, .pick (tm 23) (.const (.bool true)) (tm 27)⟩])
 (.ite (tm 28)
 (.seq
 (.ops [⟨(some 30), none, .load 25 (tm 2) (some 3)⟩,
 ⟨(some 31), none, .call 29 [(tm 30), (kc 0), (kc 1)] 33⟩,
 ⟨(some 29), none, .mov (tm 31)⟩,
 ⟨(some 32), none, .extract (tm 29) 0⟩,
 ⟨(some 33), none, .extract (tm 29) 1⟩,
 ⟨(some 5), none, .mov (tm 32)⟩,
 ⟨(some 6), none, .mov (tm 33)⟩])
 (.seq
 (.ops [⟨(some 34), none, .mov (tm 6)⟩,
 ⟨(some 35), none, .bin .neq 26 (tm 34) (kc 0)⟩,
 ⟨(some 36), none, .mov (tm 35)⟩,
 ⟨(some 37), some (36, true), .call 21 [] 4⟩,
 ⟨(some 38), none, .pick (tm 36) (tm 37) (.const (.bool false))⟩,
 ⟨(some 4), none, .mov (tm 38)⟩])
 .ret))
 .skip))
 (.seq
 (.dops [(⟨(some 39), none, .iaddrA 57 (tm 3) (kc 0) 3 1⟩, []),
 (⟨(some 40), none, .load 5 (tm 39) none⟩, [0]),
 (⟨(some 41), none, .toInt .i64 5 3 (tm 40)⟩, [1]),
 (⟨(some 42), none, .faddr 25 (tm 2) 2 2⟩, []),
 (⟨(some 43), none, .load 23 (tm 42) none⟩, [3]),
 (⟨(some 44), none, .len false 23 3 (tm 43)⟩, [4]),
 (⟨(some 45), none, .bin .rem 3 (tm 41) (tm 44)⟩, [2, 5]),
 (⟨(some 46), none, .iaddrA 57 (tm 3) (kc 1) 3 1⟩, []),
 (⟨(some 47), none, .load 5 (tm 46) none⟩, [7]),
 (⟨(some 48), none, .toInt .i64 5 3 (tm 47)⟩, [8]),
 (⟨(some 49), none, .faddr 25 (tm 2) 2 2⟩, []),
 (⟨(some 50), none, .load 23 (tm 49) none⟩, [10]),
 (⟨(some 51), none, .len false 23 3 (tm 50)⟩, [11]),
 (⟨(some 52), none, .bin .rem 3 (tm 48) (tm 51)⟩, [9, 12]),
 (⟨(some 53), none, .iaddrA 57 (tm 3) (kc 2) 3 1⟩, []),
 (⟨(some 54), none, .load 5 (tm 53) none⟩, [14]),
 (⟨(some 55), none, .toInt .i64 5 3 (tm 54)⟩, [15]),
 (⟨(some 56), none, .faddr 25 (tm 2) 2 2⟩, []),
 (⟨(some 57), none, .load 23 (tm 56) none⟩, [17]),
 (⟨(some 58), none, .len false 23 3 (tm 57)⟩, [18]),
 (⟨(some 59), none, .bin .rem 3 (tm 55) (tm 58)⟩, [16, 19]),
 (⟨(some 7), none, .mov (tm 45)⟩, [6, 0, 1, 2, 3, 4, 5, 6]),
 (⟨(some 8), none, .mov (tm 52)⟩, [13, 21, 0, 1, 2, 3, 4, 5, 6, 7, 8, 9, 10, 11, 12, 13, 21]),
 (⟨(some 9), none, .mov (tm 59)⟩, [20, 22, 0, 1, 2, 3, 4, 5, 6, 7, 8, 9, 10, 11, 12, 13, 14, 15, 16, 17, 18, 19, 20, 21, 22])])
 (.seq
 (.ops [⟨(some 61), none, .load 25 (tm 2) (some 3)⟩,
 ⟨(some 62), none, .mov (tm 7)⟩,
 ⟨(some 63), none, .mov (tm 8)⟩,
 ⟨(some 64), none, .call 29 [(tm 61), (tm 62), (tm 63)] 33⟩,
 ⟨(some 60), none, .mov (tm 64)⟩,
 ⟨(some 65), none, .extract (tm 60) 0⟩,
 ⟨(some 66), none, .extract (tm 60) 1⟩,
 ⟨(some 10), none, .mov (tm 65)⟩,
 ⟨(some 11), none, .mov (tm 66)⟩])
 (.seq
 (.ops [⟨(some 68), none, .load 25 (tm 2) (some 3)⟩,
 ⟨(some 69), none, .mov (tm 8)⟩,
 ⟨(some 70), none, .mov (tm 7)⟩,
 ⟨(some 71), none, .call 29 [(tm 68), (tm 69), (tm 70)] 33⟩,
 ⟨(some 67), none, .mov (tm 71)⟩,
 ⟨(some 72), none, .extract (tm 67) 0⟩,
 ⟨(some 73), none, .extract (tm 67) 1⟩,
 ⟨(some 12), none, .mov (tm 72)⟩,
 ⟨(some 13), none, .mov (tm 73)⟩])
 (.seq
 (.seq
 (.ops [⟨(some 74), none, .mov (tm 10)⟩,
 ⟨(some 75), none, .mov (tm 12)⟩,
 ⟨(some 76), none, .bin .neq 3 (tm 74) (tm 75)⟩,
 ⟨(some 77), none, .mov (tm 76)⟩,
 ⟨(some 78), some (77, false), .mov (tm 11)⟩,
 ⟨(some 79), some (77, false), .mov (tm 13)⟩,
 ⟨(some 80), some (77, false), .bin .neq 26 (tm 78) (tm 79)⟩,
 ⟨(some 81), none, .pick (tm 77) (.const (.bool true)) (tm 80)⟩,
 ⟨(some 82), none, .mov (tm 81)⟩,
 ⟨(some 83), some (82, false), .mov (tm 11)⟩,
 ⟨(some 84), some (82, false), .bin .eql 26 (tm 83) (kc 2)⟩,
 ⟨(some 85), some (82, false), .mov (tm 7)⟩,
 ⟨(some 86), some (82, false), .mov (tm 8)⟩,
 ⟨(some 87), some (82, false), .bin .eql 3 (tm 85) (tm 86)⟩,
 ⟨(some 88), some (82, false), .eqT true 4 (tm 84) (tm 87)⟩,
 ⟨(some 89), none, .pick (tm 82) (.const (.bool true)) (tm 88)⟩])
 (.ite (tm 89)
 (.seq
 (.ops [⟨(some 4), none, .mov (.const (.bool false))⟩])
 .ret)
 .skip))
 (.seq
 (.seq
 (.ops [⟨(some 90), none, .mov (tm 7)⟩,
 ⟨(some 91), none, .mov (tm 8)⟩,
 ⟨(some 92), none, .bin .eql 3 (tm 90) (tm 91)⟩])
 (.ite (tm 92)
 (.seq
 (.ops [⟨(some 93), none, .mov (tm 10)⟩,
 ⟨(some 94), none, .bin .eql 3 (tm 93) (kc 0)⟩,
 ⟨(some 95), none, .mov (tm 94)⟩,
 ⟨(some 96), some (95, true), .call 21 [] 4⟩,
 ⟨(some 97), none, .pick (tm 95) (tm 96) (.const (.bool false))⟩,
 ⟨(some 4), none, .mov (tm 97)⟩])
 .ret)
 .skip))
 (.seq
 (.ops [⟨(some 99), none, .load 25 (tm 2) (some 3)⟩,
 ⟨(some 100), none, .mov (tm 7)⟩,
 ⟨(some 101), none, .mov (tm 8)⟩,
 ⟨(some 102), none, .min [3, 3] 3 [(tm 100), (tm 101)]⟩,
 ⟨(some 103), none, .mov (tm 7)⟩,
 ⟨(some 104), none, .mov (tm 8)⟩,
 ⟨(some 105), none, .max [3, 3] 3 [(tm 103), (tm 104)]⟩,
 ⟨(some 106), none, .bslice 32 2 [(0, (tm 102)), (1, (tm 105))] 3 1 [(.int .i64 0)]⟩,
 ⟨(some 107), none, .call 33 [(tm 99), (tm 106)] 35⟩,
 ⟨(some 98), none, .mov (tm 107)⟩,
 ⟨(some 108), none, .extract (tm 98) 0⟩,
 ⟨(some 109), none, .extract (tm 98) 1⟩,
 ⟨(some 14), none, .mov (tm 108)⟩,
 ⟨(some 15), none, .mov (tm 109)⟩])
 (.seq
 (.seq
 (.ops [⟨(some 110), none, .mov (tm 11)⟩,
 ⟨(some 111), none, .bin .neq 26 (tm 110) (kc 0)⟩,
 ⟨(some 112), none, .mov (tm 111)⟩,
 ⟨(some 113), some (112, false), .mov (tm 15)⟩,
 ⟨(some 114), some (112, false), .bin .neq 26 (tm 113) (kc 0)⟩,
 ⟨(some 115), some (112, false), .mov (tm 114)⟩,
 ⟨(some 116), some (115, true), .mov (tm 15)⟩,
 ⟨(some 117), some (115, true), .bin .neq 26 (tm 116) (kc 9)⟩,
 ⟨(some 118), some (112, false), .pick (tm 115) (tm 117) (.const (.bool false))⟩,
 ⟨(some 119), none, .pick (tm 112) (.const (.bool true)) (tm 118)⟩,
 ⟨(some 120), none, .mov (tm 119)⟩,
 ⟨(some 121), some (120, false), .mov (tm 10)⟩,
 ⟨(some 122), some (120, false), .bin .eql 3 (tm 121) (kc 2)⟩,
 ⟨(some 123), some (120, false), .mov (tm 15)⟩,
 ⟨(some 124), some (120, false), .bin .eql 26 (tm 123) (kc 9)⟩,
 ⟨(some 125), some (120, false), .eqT true 4 (tm 122) (tm 124)⟩,
 ⟨(some 126), none, .pick (tm 120) (.const (.bool true)) (tm 125)⟩])
 (.ite (tm 126)
 (.seq
 (.ops [⟨(some 4), none, .mov (.const (.bool false))⟩])
 .ret)
 .skip))
 (.seq
 (.seq
 (.ops [⟨(some 127), none, .mov (tm 7)⟩,
 ⟨(some 128), none, .mov (tm 9)⟩,
 ⟨(some 129), none, .bin .eql 3 (tm 127) (tm 128)⟩,
 ⟨(some 130), none, .mov (tm 129)⟩,
 ⟨(some 131), some (130, false), .mov (tm 8)⟩,
 ⟨(some 132), some (130, false), .mov (tm 9)⟩,
 ⟨(some 133), some (130, false), .bin .eql 3 (tm 131) (tm 132)⟩,
 ⟨(some 134), none, .pick (tm 130) (.const (.bool true)) (tm 133)⟩])
 (.ite (tm 134)
 (.seq
 (.ops [⟨(some 135), none, .call 21 [] 4⟩,
 ⟨(some 4), none, .mov (tm 135)⟩])
 .ret)
 .skip))
 (.seq
 (.ops [⟨(some 137), none, .load 25 (tm 2) (some 3)⟩,
 ⟨(some 138), none, .mov (tm 8)⟩,
 ⟨(some 139), none, .mov (tm 9)⟩,
 ⟨(some 140), none, .call 29 [(tm 137), (tm 138), (tm 139)] 33⟩,
 ⟨(some 136), none, .mov (tm 140)⟩,
 ⟨(some 141), none, .extract (tm 136) 0⟩,
 ⟨(some 142), none, .extract (tm 136) 1⟩,
 ⟨(some 16), none, .mov (tm 141)⟩,
 ⟨(some 17), none, .mov (tm 142)⟩])
 (.seq
 (.ops [⟨(some 144), none, .load 25 (tm 2) (some 3)⟩,
 ⟨(some 145), none, .mov (tm 7)⟩,
 ⟨(some 146), none, .mov (tm 9)⟩,
 ⟨(some 147), none, .call 29 [(tm 144), (tm 145), (tm 146)] 33⟩,
 ⟨(some 143), none, .mov (tm 147)⟩,
 ⟨(some 148), none, .extract (tm 143) 0⟩,
 ⟨(some 149), none, .extract (tm 143) 1⟩,
 ⟨(some 18), none, .mov (tm 148)⟩,
 ⟨(some 19), none, .mov (tm 149)⟩])
 (.seq
 (.ops [⟨(some 150), none, .mov (tm 17)⟩,
 ⟨(some 151), none, .bin .eql 26 (tm 150) (kc 0)⟩,
 ⟨(some 152), none, .mov (tm 151)⟩,
 ⟨(some 153), some (152, true), .mov (tm 19)⟩,
 ⟨(some 154), some (152, true), .bin .eql 26 (tm 153) (kc 0)⟩,
 ⟨(some 155), none, .pick (tm 152) (tm 154) (.const (.bool false))⟩,
 ⟨(some 156), none, .mov (tm 155)⟩,
 ⟨(some 157), some (156, true), .mov (tm 10)⟩,
 ⟨(some 158), some (156, true), .bin .neq 3 (tm 157) (kc 1)⟩,
 ⟨(some 159), some (156, true), .mov (tm 158)⟩,
 ⟨(some 160), some (159, false), .mov (tm 16)⟩,
 ⟨(some 161), some (159, false), .mov (tm 18)⟩,
 ⟨(some 162), some (159, false), .bin .eql 3 (tm 160) (tm 161)⟩,
 ⟨(some 163), some (156, true), .pick (tm 159) (.const (.bool true)) (tm 162)⟩,
 ⟨(some 164), none, .pick (tm 156) (tm 163) (.const (.bool false))⟩,
 ⟨(some 165), none, .mov (tm 164)⟩,
 ⟨(some 166), some (165, true), .call 21 [] 4⟩,
 ⟨(some 167), none, .pick (tm 165) (tm 166) (.const (.bool false))⟩,
 ⟨(some 4), none, .mov (tm 167)⟩])
 .ret)))))))))))))
theorem fn10 : FnOK Try.prog 10 168 [.tmp 4] L10 := ⟨Try.f10, Try.func10, by kernel_rfl, Try.ntmps10, by rw [Try.results10], by kernel_rfl⟩
def L11 : LCode :=
 (.seq
 (.ops [⟨(some 2), none, .box 25 (tm 0)⟩,
 ⟨(some 4), none, .mov (.const (.bool false))⟩])
 (.seq
 (.ops [⟨(some 14), none, .load 25 (tm 2) (some 3)⟩,
 ⟨(some 15), none, .call 31 [(tm 14)] 35⟩,
 ⟨(some 13), none, .mov (tm 15)⟩,
 ⟨(some 16), none, .extract (tm 13) 0⟩,
 ⟨(some 17), none, .extract (tm 13) 1⟩,
 ⟨(some 5), none, .mov (tm 16)⟩,
 ⟨(some 6), none, .mov (tm 17)⟩])
 (.seq
 (.seq
 (.ops [⟨(some 18), none, .load 25 (tm 2) (some 3)⟩,
 ⟨(some 19), none, .call 38 [(tm 18)] 4⟩,
 ⟨(some 20), none, .un .not (tm 19)⟩])
 (.ite (tm 20)
 (.seq
 (.ops [⟨(some 21), none, .mov (tm 6)⟩,
 ⟨(some 22), none, .bin .neq 26 (tm 21) (kc 0)⟩,
 ⟨(some 23), none, .mov (tm 22)⟩,
 ⟨(some 24), some (23, true), .mov (tm 5)⟩,
 ⟨(some 25), some (23, true), .len false 32 3 (tm 24)⟩,
 ⟨(some 26), some (23, true), .bin .eql 3 (tm 25) (kc 0)⟩,
 ⟨(some 27), none, .pick (tm 23) (tm 26) (.const (.bool false))⟩,
 ⟨(some 28), none, .mov (tm 27)⟩,
 ⟨(some 29), some (28, true), .call 21 [] 4⟩,
 ⟨(some 30), none, .pick (tm 28) (tm 29) (.const (.bool false))⟩,
 ⟨(some 4), none, .mov (tm 30)⟩])
 .ret)
 .skip))
 (.seq
 (.ops [⟨(some 7), none, .mov (.const (.slice none 0 0))⟩])
 (.seq
 (.seq
 (.ops [⟨(some 8), none, .mov (kc 0)⟩])
 (.block 0
 (.loop
 (.seq
 (.seq
 (.ops [⟨(some 31), none, .mov (tm 8)⟩,
 ⟨(some 32), none, .faddr 25 (tm 2) 2 2⟩,
 ⟨(some 33), none, .load 23 (tm 32) none⟩,
 ⟨(some 34), none, .len false 23 3 (tm 33)⟩,
 ⟨(some 35), none, .bin .lss 3 (tm 31) (tm 34)⟩])
 (.ite (tm 35)
 .skip
 (.exit 0)))
 (.seq
 (.block 1
 (.seq
 (.ops [⟨(some 38), none, .mov (tm 1)⟩,
 ⟨(some 39), none, .toInt .i64 5 3 (tm 38)⟩,
 ⟨(some 40), none, .mov (tm 8)⟩,
 ⟨(some 41), none, .call 41 [(tm 39), (tm 40)] 4⟩])
 (.ite (tm 41)
 (.ops [⟨(some 42), none, .mov (tm 7)⟩,
 ⟨(some 43), none, .mov (tm 8)⟩,
 ⟨(some 44), none, .bslice 32 1 [(0, (tm 43))] 3 1 [(.int .i64 0)]⟩,
 ⟨(some 45), none, .append 32 32 (tm 42) (tm 44) 3 1 8 [(.int .i64 0)]⟩,
 ⟨(some 7), none, .mov (tm 45)⟩])
 .skip)))
 (.ops [⟨(some 36), none, .mov (tm 8)⟩,
 ⟨(some 37), none, .bin .add 3 (tm 36) (kc 1)⟩,
 ⟨(some 8), none, .mov (tm 37)⟩]))))))
 (.seq
 (.seq
 (.ops [⟨(some 46), none, .mov (tm 6)⟩,
 ⟨(some 47), none, .bin .neq 26 (tm 46) (kc 0)⟩,
 ⟨(some 48), none, .mov (tm 47)⟩,
 ⟨(some 49), some (48, false), .mov (tm 5)⟩,
 ⟨(some 50), some (48, false), .faddr 25 (tm 2) 2 2⟩,
 ⟨(some 51), some (48, false), .load 23 (tm 50) none⟩,
 ⟨(some 52), some (48, false), .len false 23 3 (tm 51)⟩,
 ⟨(some 53), some (48, false), .call 42 [(tm 49), (tm 52)] 4⟩,
 ⟨(some 54), some (48, false), .un .not (tm 53)⟩,
 ⟨(some 55), none, .pick (tm 48) (.const (.bool true)) (tm 54)⟩,
 ⟨(some 56), none, .mov (tm 55)⟩,
 ⟨(some 57), some (56, false), .faddr 25 (tm 2) 2 2⟩,
 ⟨(some 58), some (56, false), .load 23 (tm 57) none⟩,
 ⟨(some 59), some (56, false), .len false 23 3 (tm 58)⟩,
 ⟨(some 60), some (56, false), .bin .gtr 3 (tm 59) (kc 0)⟩,
 ⟨(some 61), some (56, false), .mov (tm 60)⟩,
 ⟨(some 62), some (61, true), .mov (tm 5)⟩,
 ⟨(some 63), some (61, true), .len false 32 3 (tm 62)⟩,
 ⟨(some 64), some (61, true), .faddr 25 (tm 2) 2 2⟩,
 ⟨(some 65), some (61, true), .load 23 (tm 64) none⟩,
 ⟨(some 66), some (61, true), .len false 23 3 (tm 65)⟩,
 ⟨(some 67), some (61, true), .bin .geq 3 (tm 63) (tm 66)⟩,
 ⟨(some 68), some (56, false), .pick (tm 61) (tm 67) (.const (.bool false))⟩,
 ⟨(some 69), none, .pick (tm 56) (.const (.bool true)) (tm 68)⟩])
 (.ite (tm 69)
 (.seq
 (.ops [⟨(some 4), none, .mov (.const (.bool false))⟩])
 .ret)
 .skip))
 (.seq
 (.seq
 (.ops [⟨(some 70), none, .faddr 25 (tm 2) 2 2⟩,
 ⟨(some 71), none, .load 23 (tm 70) none⟩,
 ⟨(some 72), none, .len false 23 3 (tm 71)⟩,
 ⟨(some 73), none, .bin .eql 3 (tm 72) (kc 0)⟩])
 (.ite (tm 73)
 (.seq
 (.ops [⟨(some 74), none, .call 21 [] 4⟩,
 ⟨(some 4), none, .mov (tm 74)⟩])
 .ret)
 .skip))
 (.seq
 (.dops [(⟨(some 76), none, .load 25 (tm 2) (some 3)⟩, []),
 (⟨(some 77), none, .load 25 (tm 2) (some 3)⟩, []),
 (⟨(some 78), none, .mov (tm 5)⟩, []),
 (⟨(some 79), none, .call 43 [(tm 77), (tm 78)] 32⟩, [1, 2]),
 (⟨(some 80), none, .call 33 [(tm 76), (tm 79)] 35⟩, [0, 3, 3]),
 (⟨(some 75), none, .mov (tm 80)⟩, [4]),
 (⟨(some 81), none, .extract (tm 75) 0⟩, [5]),
 (⟨(some 82), none, .extract (tm 75) 1⟩, [5]),
 (⟨(some 9), none, .mov (tm 81)⟩, [6, 4, 0, 1, 2, 3, 4, 5, 6]),
 (⟨(some 10), none, .mov (tm 82)⟩, [7, 8, 0, 1, 2, 3, 4, 5, 6, 7, 8])])
 (.seq
 (.dops [(⟨(some 84), none, .load 25 (tm 2) (some 3)⟩, []),
 (⟨(some 85), none, .load 25 (tm 2) (some 3)⟩, []),
 (⟨(some 86), none, .mov (tm 7)⟩, []),
 (⟨(some 87), none, .call 43 [(tm 85), (tm 86)] 32⟩, [1, 2]),
 (⟨(some 88), none, .call 33 [(tm 84), (tm 87)] 35⟩, [0, 3, 3]),
 (⟨(some 83), none, .mov (tm 88)⟩, [4]),
 (⟨(some 89), none, .extract (tm 83) 0⟩, [5]),
 (⟨(some 90), none, .extract (tm 83) 1⟩, [5]),
 (⟨(some 11), none, .mov (tm 89)⟩, [6, 4, 0, 1, 2, 3, 4, 5, 6]),
 (⟨(some 12), none, .mov (tm 90)⟩, [7, 8, 0, 1, 2, 3, 4, 5, 6, 7, 8])])
 (.seq
 (.ops [⟨(some 91), none, .mov (tm 10)⟩,
 ⟨(some 92), none, .bin .eql 26 (tm 91) (kc 0)⟩,
 ⟨(some 93), none, .mov (tm 92)⟩,
 ⟨(some 94), some (93, true), .mov (tm 12)⟩,
 ⟨(some 95), some (93, true), .bin .neq 26 (tm 94) (kc 0)⟩,
 ⟨(some 96), some (93, true), .mov (tm 95)⟩,
 ⟨(some 97), some (96, false), .mov (tm 7)⟩,
 ⟨(some 98), some (96, false), .mov (tm 5)⟩,
 ⟨(some 99), some (96, false), .call 40 [(tm 97), (tm 98)] 4⟩,
 ⟨(some 100), some (96, false), .un .not (tm 99)⟩,
 ⟨(some 101), some (93, true), .pick (tm 96) (.const (.bool true)) (tm 100)⟩,
 ⟨(some 102), none, .pick (tm 93) (tm 101) (.const (.bool false))⟩,
 ⟨(some 103), none, .mov (tm 102)⟩,
 ⟨(some 104), some (103, true), .call 21 [] 4⟩,
 ⟨(some 105), none, .pick (tm 103) (tm 104) (.const (.bool false))⟩,
 ⟨(some 4), none, .mov (tm 105)⟩])
 .ret))))))))))
theorem fn11 : FnOK Try.prog 11 106 [.tmp 4] L11 := ⟨Try.f11, Try.func11, by kernel_rfl, Try.ntmps11, by rw [Try.results11], by kernel_rfl⟩
def L12 : LCode :=
 (.seq
 (.ops [⟨(some 1), none, .box 64 (tm 0)⟩,
 ⟨(some 2), none, .mov (.const (.bool false))⟩])
 (.seq
 (.dops [(⟨(some 29), none, .faddr 64 (tm 1) 0 0⟩, []),
 (⟨(some 30), none, .load 25 (tm 29) (some 3)⟩, [0]),
 (⟨(some 31), none, .faddr 64 (tm 1) 1 3⟩, []),
 (⟨(some 32), none, .load 5 (tm 31) none⟩, [2]),
 (⟨(some 33), none, .faddr 64 (tm 1) 2 4⟩, []),
 (⟨(some 34), none, .load 51 (tm 33) none⟩, [4]),
 (⟨(some 35), none, .faddr 64 (tm 1) 3 5⟩, []),
 (⟨(some 36), none, .load 51 (tm 35) none⟩, [6]),
 (⟨(some 3), none, .alloc 25 [(.int .i64 0), (.slice none 0 0), (.slice none 0 0)]⟩, []),
 (⟨none, none, .store 25 (tm 3) (tm 30) 3⟩, [8, 1, 0, 1, 8]),
 (⟨(some 4), none, .mov (tm 32)⟩, [3, 9, 0, 1, 2, 3, 8, 9]),
 (⟨(some 5), none, .mov (tm 34)⟩, [5, 10, 0, 1, 2, 3, 4, 5, 8, 9, 10]),
 (⟨(some 6), none, .mov (tm 36)⟩, [7, 11, 0, 1, 2, 3, 4, 5, 6, 7, 8, 9, 10, 11])])
 (.seq
 (.seq
 (.ops [⟨(some 37), none, .load 25 (tm 3) (some 3)⟩,
 ⟨(some 38), none, .call 38 [(tm 37)] 4⟩,
 ⟨(some 39), none, .un .not (tm 38)⟩])
 (.ite (tm 39)
 (.seq
 (.ops [⟨(some 41), none, .load 25 (tm 3) (some 3)⟩,
 ⟨(some 42), none, .call 35 [(tm 41), (kc 0), (.const (.slice none 0 0))] 47⟩,
 ⟨(some 40), none, .mov (tm 42)⟩,
 ⟨(some 43), none, .extract (tm 40) 0⟩,
 ⟨(some 44), none, .extract (tm 40) 1⟩,
 ⟨(some 7), none, .mov (tm 43)⟩,
 ⟨(some 8), none, .mov (tm 44)⟩])
 (.seq
 (.ops [⟨(some 45), none, .mov (tm 8)⟩,
 ⟨(some 46), none, .bin .neq 26 (tm 45) (kc 0)⟩,
 ⟨(some 47), none, .mov (tm 46)⟩,
 ⟨(some 48), some (47, true), .call 21 [] 4⟩,
 ⟨(some 49), none, .pick (tm 47) (tm 48) (.const (.bool false))⟩,
 ⟨(some 2), none, .mov (tm 49)⟩])
 .ret))
 .skip))
 (.seq
 (.ops [⟨(some 50), none, .mov (tm 4)⟩,
 ⟨(some 51), none, .toInt .i64 5 3 (tm 50)⟩,
 ⟨(some 52), none, .faddr 25 (tm 3) 1 1⟩,
 ⟨(some 53), none, .load 22 (tm 52) none⟩,
 ⟨(some 54), none, .len false 22 3 (tm 53)⟩,
 ⟨(some 55), none, .bin .rem 3 (tm 51) (tm 54)⟩,
 ⟨(some 9), none, .mov (tm 55)⟩])
 (.seq
 (.ops [⟨(some 56), none, .faddr 25 (tm 3) 1 1⟩,
 ⟨(some 57), none, .load 22 (tm 56) none⟩,
 ⟨(some 58), none, .mov (tm 9)⟩,
 ⟨(some 59), none, .iaddr 22 (tm 57) (tm 58) 2⟩,
 ⟨(some 60), none, .faddr 67 (tm 59) 1 1⟩,
 ⟨(some 61), none, .load 65 (tm 60) none⟩,
 ⟨(some 10), none, .mov (tm 61)⟩])
 (.seq
 (.ops [⟨(some 11), none, .mov (.const (.slice none 0 0))⟩])
 (.seq
 (.seq
 (.ops [⟨(some 12), none, .mov (kc 0)⟩])
 (.block 0
 (.loop
 (.seq
 (.seq
 (.ops [⟨(some 62), none, .mov (tm 12)⟩,
 ⟨(some 63), none, .mov (tm 5)⟩,
 ⟨(some 64), none, .len false 51 3 (tm 63)⟩,
 ⟨(some 65), none, .bin .lss 3 (tm 62) (tm 64)⟩,
 ⟨(some 66), none, .mov (tm 65)⟩,
 ⟨(some 67), some (66, true), .mov (tm 12)⟩,
 ⟨(some 68), some (66, true), .bin .lss 3 (tm 67) (kc 5)⟩,
 ⟨(some 69), none, .pick (tm 66) (tm 68) (.const (.bool false))⟩])
 (.ite (tm 69)
 .skip
 (.exit 0)))
 (.seq
 (.block 1
 (.dops [(⟨(some 72), none, .mov (tm 11)⟩, []),
 (⟨(some 73), none, .mov (tm 5)⟩, []),
 (⟨(some 74), none, .mov (tm 12)⟩, []),
 (⟨(some 75), none, .iaddr 51 (tm 73) (tm 74) 1⟩, [1, 2]),
 (⟨(some 76), none, .load 5 (tm 75) none⟩, [3]),
 (⟨(some 77), none, .toInt .i64 5 3 (tm 76)⟩, [4]),
 (⟨(some 78), none, .faddr 25 (tm 3) 0 0⟩, []),
 (⟨(some 79), none, .load 3 (tm 78) none⟩, [6]),
 (⟨(some 80), none, .bin .rem 3 (tm 77) (tm 79)⟩, [5, 7]),
 (⟨(some 81), none, .bslice 32 1 [(0, (tm 80))] 3 1 [(.int .i64 0)]⟩, [8]),
 (⟨(some 82), none, .append 32 32 (tm 72) (tm 81) 3 1 8 [(.int .i64 0)]⟩, [0, 9]),
 (⟨(some 11), none, .mov (tm 82)⟩, [10, 10, 0, 1, 2, 3, 4, 5, 6, 7, 8, 9, 10])]))
 (.ops [⟨(some 70), none, .mov (tm 12)⟩,
 ⟨(some 71), none, .bin .add 3 (tm 70) (kc 1)⟩,
 ⟨(some 12), none, .mov (tm 71)⟩]))))))
 (.seq
 (.ops [⟨(some 13), none, .mov (.const (.string ⟨#[]⟩))⟩,
 ⟨(some 14), none, .mov (.const (.slice none 0 0))⟩])
 (.seq
 (.seq
 (.ops [⟨(some 15), none, .mov (kc 0)⟩])
 (.block 2
 (.loop
 (.seq
 (.seq
 (.ops [⟨(some 83), none, .mov (tm 15)⟩,
 ⟨(some 84), none, .mov (tm 6)⟩,
 ⟨(some 85), none, .len false 51 3 (tm 84)⟩,
 ⟨(some 86), none, .bin .lss 3 (tm 83) (tm 85)⟩,
 ⟨(some 87), none, .mov (tm 86)⟩,
 ⟨(some 88), some (87, true), .mov (tm 15)⟩,
 ⟨(some 89), some (87, true), .bin .lss 3 (tm 88) (kc 5)⟩,
 ⟨(some 90), none, .pick (tm 87) (tm 89) (.const (.bool false))⟩])
 (.ite (tm 90)
 .skip
 (.exit 2)))
 (.seq
 (.block 3
 (.seq
 (.ops [⟨(some 93), none, .mov (tm 6)⟩,
 ⟨(some 94), none, .mov (tm 15)⟩,
 ⟨(some 95), none, .iaddr 51 (tm 93) (tm 94) 1⟩,
 ⟨(some 96), none, .load 5 (tm 95) none⟩,
 ⟨(some 97), none, .toInt .i64 5 3 (tm 96)⟩,
 ⟨(some 98), none, .mov (tm 10)⟩,
 ⟨(some 99), none, .len false 65 3 (tm 98)⟩,
 ⟨(some 100), none, .bin .rem 3 (tm 97) (tm 99)⟩,
 ⟨(some 16), none, .mov (tm 100)⟩])
 (.dops [(⟨(some 101), none, .mov (tm 13)⟩, []),
 (⟨(some 102), none, .mov (tm 10)⟩, []),
 (⟨(some 103), none, .mov (tm 16)⟩, []),
 (⟨(some 104), none, .iaddr 65 (tm 102) (tm 103) 3⟩, [1, 2]),
 (⟨(some 105), none, .faddr 69 (tm 104) 0 0⟩, [3]),
 (⟨(some 106), none, .load 5 (tm 105) none⟩, [4]),
 (⟨(some 107), none, .toInt .i32 5 21 (tm 106)⟩, [5]),
 (⟨(some 108), none, .conv 21 9 (tm 107)⟩, [6]),
 (⟨(some 109), none, .bin .add 9 (tm 101) (tm 108)⟩, [0, 7]),
 (⟨(some 110), none, .bslice 32 0 [] 3 1 [(.int .i64 0)]⟩, []),
 (⟨(some 111), none, .mov (tm 14)⟩, []),
 (⟨(some 112), none, .append 32 32 (tm 110) (tm 111) 3 1 8 [(.int .i64 0)]⟩, [9, 10]),
 (⟨(some 113), none, .mov (tm 16)⟩, []),
 (⟨(some 114), none, .bslice 32 1 [(0, (tm 113))] 3 1 [(.int .i64 0)]⟩, [12]),
 (⟨(some 115), none, .append 32 32 (tm 112) (tm 114) 3 1 8 [(.int .i64 0)]⟩, [11, 13, 11]),
 (⟨(some 13), none, .mov (tm 109)⟩, [8, 14, 0, 1, 2, 3, 4, 5, 6, 7, 8]),
 (⟨(some 14), none, .mov (tm 115)⟩, [14, 15, 0, 1, 2, 3, 4, 5, 6, 7, 8, 9, 10, 11, 12, 13, 14, 15])])))
 (.ops [⟨(some 91), none, .mov (tm 15)⟩,
 ⟨(some 92), none, .bin .add 3 (tm 91) (kc 1)⟩,
 ⟨(some 15), none, .mov (tm 92)⟩]))))))
 (.seq
 (.ops [⟨(some 117), none, .load 25 (tm 3) (some 3)⟩,
 ⟨(some 118), none, .mov (tm 9)⟩,
 ⟨(some 119), none, .mov (tm 11)⟩,
 ⟨(some 120), none, .call 35 [(tm 117), (tm 118), (tm 119)] 47⟩,
 ⟨(some 116), none, .mov (tm 120)⟩,
 ⟨(some 121), none, .extract (tm 116) 0⟩,
 ⟨(some 122), none, .extract (tm 116) 1⟩,
 ⟨(some 17), none, .mov (tm 121)⟩,
 ⟨(some 18), none, .mov (tm 122)⟩])
 (.seq
 (.ops [⟨(some 19), none, .mov (.const (.bool false))⟩])
 (.seq
 (.seq
 (.ops [⟨(some 123), none, .mov (tm 13)⟩,
 ⟨(some 124), none, .len true 9 3 (tm 123)⟩,
 ⟨(some 125), none, .bin .gtr 3 (tm 124) (kc 0)⟩])
 (.ite (tm 125)
 (.seq
 (.ops [⟨(some 126), none, .load 25 (tm 3) (some 3)⟩,
 ⟨(some 20), none, .alloc 25 [(.int .i64 0), (.slice none 0 0), (.slice none 0 0)]⟩,
 ⟨none, none, .store 25 (tm 20) (tm 126) 3⟩])
 (.seq
 (.ops [⟨(some 127), none, .mov (tm 9)⟩,
 ⟨(some 128), none, .mov (tm 13)⟩,
 ⟨(some 129), none, .build 55 [(0, (tm 127)), (1, (tm 128))] [(.int .i64 0), (.string ⟨#[]⟩)] [(0, 1, (tm 127)), (1, 1, (tm 128))]⟩,
 ⟨(some 130), none, .bslice 23 1 [(0, (tm 129))] 55 2 [(.int .i64 0), (.string ⟨#[]⟩)]⟩,
 ⟨(some 131), none, .faddr 25 (tm 20) 2 2⟩,
 ⟨none, none, .store 23 (tm 131) (tm 130) 1⟩])
 (.seq
 (.ops [⟨(some 133), none, .load 25 (tm 20) (some 3)⟩,
 ⟨(some 134), none, .mov (tm 11)⟩,
 ⟨(some 135), none, .call 27 [(tm 133), (kc 0), (tm 134)] 38⟩,
 ⟨(some 132), none, .mov (tm 135)⟩,
 ⟨(some 136), none, .extract (tm 132) 0⟩,
 ⟨(some 137), none, .extract (tm 132) 1⟩,
 ⟨(some 21), none, .mov (tm 136)⟩,
 ⟨(some 22), none, .mov (tm 137)⟩])
 (.seq
 (.seq
 (.ops [⟨(some 138), none, .mov (tm 22)⟩,
 ⟨(some 139), none, .bin .neq 26 (tm 138) (kc 0)⟩])
 (.ite (tm 139)
 (.seq
 (.ops [⟨(some 2), none, .mov (.const (.bool false))⟩])
 .ret)
 .skip))
 (.ops [⟨(some 140), none, .mov (tm 21)⟩,
 ⟨(some 19), none, .mov (tm 140)⟩])))))
 .skip))
 (.seq
 (.seq
 (.ops [⟨(some 141), none, .mov (tm 18)⟩,
 ⟨(some 142), none, .bin .neq 26 (tm 141) (kc 0)⟩])
 (.ite (tm 142)
 (.seq
 (.ops [⟨(some 143), none, .mov (tm 18)⟩,
 ⟨(some 144), none, .bin .eql 26 (tm 143) (kc 9)⟩,
 ⟨(some 145), none, .mov (tm 144)⟩,
 ⟨(some 146), some (145, true), .mov (tm 17)⟩,
 ⟨(some 147), some (145, true), .bin .eql 9 (tm 146) (.const (.string ⟨#[]⟩))⟩,
 ⟨(some 148), none, .pick (tm 145) (tm 147) (.const (.bool false))⟩,
 ⟨(some 149), none, .mov (tm 148)⟩,
 ⟨(some 150), some (149, true), .mov (tm 19)⟩,
 ⟨(some 151), some (149, true), .un .not (tm 150)⟩,
 ⟨(some 152), none, .pick (tm 149) (tm 151) (.const (.bool false))⟩,
 ⟨(some 153), none, .mov (tm 152)⟩,
 ⟨(some 154), some (153, true), .call 21 [] 4⟩,
 ⟨(some 155), none, .pick (tm 153) (tm 154) (.const (.bool false))⟩,
 ⟨(some 2), none, .mov (tm 155)⟩])
 .ret)
 .skip))
 (.seq
 (.ops [⟨(some 156), none, .load 25 (tm 3) (some 3)⟩,
 ⟨(some 23), none, .alloc 25 [(.int .i64 0), (.slice none 0 0), (.slice none 0 0)]⟩,
 ⟨none, none, .store 25 (tm 23) (tm 156) 3⟩])
 (.seq
 (.ops [⟨(some 157), none, .mov (tm 9)⟩,
 ⟨(some 158), none, .mov (tm 17)⟩,
 ⟨(some 159), none, .build 55 [(0, (tm 157)), (1, (tm 158))] [(.int .i64 0), (.string ⟨#[]⟩)] [(0, 1, (tm 157)), (1, 1, (tm 158))]⟩,
 ⟨(some 160), none, .bslice 23 1 [(0, (tm 159))] 55 2 [(.int .i64 0), (.string ⟨#[]⟩)]⟩,
 ⟨(some 161), none, .faddr 25 (tm 23) 2 2⟩,
 ⟨none, none, .store 23 (tm 161) (tm 160) 1⟩])
 (.seq
 (.seq
 (.ops [⟨(some 162), none, .load 25 (tm 23) (some 3)⟩,
 ⟨(some 163), none, .call 38 [(tm 162)] 4⟩,
 ⟨(some 164), none, .un .not (tm 163)⟩])
 (.ite (tm 164)
 (.seq
 (.ops [⟨(some 2), none, .mov (.const (.bool false))⟩])
 .ret)
 .skip))
 (.seq
 (.ops [⟨(some 166), none, .load 25 (tm 23) (some 3)⟩,
 ⟨(some 167), none, .mov (tm 11)⟩,
 ⟨(some 168), none, .call 27 [(tm 166), (kc 0), (tm 167)] 38⟩,
 ⟨(some 165), none, .mov (tm 168)⟩,
 ⟨(some 169), none, .extract (tm 165) 0⟩,
 ⟨(some 170), none, .extract (tm 165) 1⟩,
 ⟨(some 24), none, .mov (tm 169)⟩,
 ⟨(some 25), none, .mov (tm 170)⟩])
 (.seq
 (.ops [⟨(some 26), none, .mov (.const (.slice none 0 0))⟩])
 (.seq
 (.seq
 (.ops [⟨(some 27), none, .mov (kc 0)⟩])
 (.block 4
 (.loop
 (.seq
 (.seq
 (.ops [⟨(some 171), none, .mov (tm 27)⟩,
 ⟨(some 172), none, .mov (tm 17)⟩,
 ⟨(some 173), none, .len true 9 3 (tm 172)⟩,
 ⟨(some 174), none, .bin .lss 3 (tm 171) (tm 173)⟩])
 (.ite (tm 174)
 .skip
 (.exit 4)))
 (.seq
 (.block 5
 (.seq
 (.ops [⟨(some 28), none, .mov (kc 0)⟩])
 (.block 6
 (.loop
 (.seq
 (.seq
 (.ops [⟨(some 177), none, .mov (tm 28)⟩,
 ⟨(some 178), none, .mov (tm 10)⟩,
 ⟨(some 179), none, .len false 65 3 (tm 178)⟩,
 ⟨(some 180), none, .bin .lss 3 (tm 177) (tm 179)⟩])
 (.ite (tm 180)
 .skip
 (.exit 6)))
 (.seq
 (.block 7
 (.seq
 (.dops [(⟨(some 183), none, .mov (tm 10)⟩, []),
 (⟨(some 184), none, .mov (tm 28)⟩, []),
 (⟨(some 185), none, .iaddr 65 (tm 183) (tm 184) 3⟩, [0, 1]),
 (⟨(some 186), none, .faddr 69 (tm 185) 0 0⟩, [2]),
 (⟨(some 187), none, .load 5 (tm 186) none⟩, [3]),
 (⟨(some 188), none, .mov (tm 17)⟩, []),
 (⟨(some 189), none, .mov (tm 27)⟩, []),
 (⟨(some 190), none, .indexS 9 (tm 188) (tm 189)⟩, [5, 6]),
 (⟨(some 191), none, .bin .eql 5 (tm 187) (tm 190)⟩, [4, 7])])
 (.ite (tm 191)
 (.ops [⟨(some 192), none, .mov (tm 26)⟩,
 ⟨(some 193), none, .mov (tm 28)⟩,
 ⟨(some 194), none, .bslice 32 1 [(0, (tm 193))] 3 1 [(.int .i64 0)]⟩,
 ⟨(some 195), none, .append 32 32 (tm 192) (tm 194) 3 1 8 [(.int .i64 0)]⟩,
 ⟨(some 26), none, .mov (tm 195)⟩])
 .skip)))
 (.ops [⟨(some 181), none, .mov (tm 28)⟩,
 ⟨(some 182), none, .bin .add 3 (tm 181) (kc 1)⟩,
 ⟨(some 28), none, .mov (tm 182)⟩])))))))
 (.ops [⟨(some 175), none, .mov (tm 27)⟩,
 ⟨(some 176), none, .bin .add 3 (tm 175) (kc 1)⟩,
 ⟨(some 27), none, .mov (tm 176)⟩]))))))
 (.seq
 (.ops [⟨(some 196), none, .mov (tm 25)⟩,
 ⟨(some 197), none, .bin .eql 26 (tm 196) (kc 0)⟩,
 ⟨(some 198), none, .mov (tm 197)⟩,
 ⟨(some 199), some (198, true), .mov (tm 24)⟩,
 ⟨(some 200), none, .pick (tm 198) (tm 199) (.const (.bool false))⟩,
 ⟨(some 201), none, .mov (tm 200)⟩,
 ⟨(some 202), some (201, true), .mov (tm 19)⟩,
 ⟨(some 203), some (201, true), .un .not (tm 202)⟩,
 ⟨(some 204), some (201, true), .mov (tm 203)⟩,
 ⟨(some 205), some (204, false), .mov (tm 14)⟩,
 ⟨(some 206), some (204, false), .mov (tm 26)⟩,
 ⟨(some 207), some (204, false), .call 40 [(tm 205), (tm 206)] 4⟩,
 ⟨(some 208), some (204, false), .un .not (tm 207)⟩,
 ⟨(some 209), some (201, true), .pick (tm 204) (.const (.bool true)) (tm 208)⟩,
 ⟨(some 210), none, .pick (tm 201) (tm 209) (.const (.bool false))⟩,
 ⟨(some 211), none, .mov (tm 210)⟩,
 ⟨(some 212), some (211, true), .call 21 [] 4⟩,
 ⟨(some 213), none, .pick (tm 211) (tm 212) (.const (.bool false))⟩,
 ⟨(some 2), none, .mov (tm 213)⟩])
 .ret))))))))))))))))))))
theorem fn12 : FnOK Try.prog 12 214 [.tmp 2] L12 := ⟨Try.f12, Try.func12, by kernel_rfl, Try.ntmps12, by rw [Try.results12], by kernel_rfl⟩
def L13 : LCode :=
 (.seq
 (.ops [⟨(some 3), none, .box 25 (tm 0)⟩,
 ⟨(some 4), none, .box 57 (tm 1)⟩,
 ⟨(some 5), none, .box 50 (tm 2)⟩,
 ⟨(some 6), none, .mov (.const (.bool false))⟩])
 (.seq
 (.seq
 (.ops [⟨(some 27), none, .load 25 (tm 3) (some 3)⟩,
 ⟨(some 28), none, .call 38 [(tm 27)] 4⟩,
 ⟨(some 29), none, .un .not (tm 28)⟩])
 (.ite (tm 29)
 (.seq
 (.ops [⟨(some 30), none, .call 21 [] 4⟩,
 ⟨(some 6), none, .mov (tm 30)⟩])
 .ret)
 .skip))
 (.seq
 (.ops [⟨(some 31), none, .load 25 (tm 3) (some 3)⟩,
 ⟨(some 7), none, .alloc 25 [(.int .i64 0), (.slice none 0 0), (.slice none 0 0)]⟩,
 ⟨none, none, .store 25 (tm 7) (tm 31) 3⟩])
 (.seq
 (.ops [⟨(some 32), none, .bslice 22 0 [] 67 2 [(.string ⟨#[]⟩), (.slice none 0 0)]⟩,
 ⟨(some 33), none, .faddr 25 (tm 3) 1 1⟩,
 ⟨(some 34), none, .load 22 (tm 33) none⟩,
 ⟨(some 35), none, .append 22 22 (tm 32) (tm 34) 67 2 40 [(.string ⟨#[]⟩), (.slice none 0 0)]⟩,
 ⟨(some 36), none, .faddr 25 (tm 7) 1 1⟩,
 ⟨none, none, .store 22 (tm 36) (tm 35) 1⟩])
 (.seq
 (.ops [⟨(some 37), none, .iaddrA 57 (tm 4) (kc 0) 3 1⟩,
 ⟨(some 38), none, .load 5 (tm 37) none⟩,
 ⟨(some 39), none, .toInt .i64 5 3 (tm 38)⟩,
 ⟨(some 40), none, .faddr 25 (tm 3) 1 1⟩,
 ⟨(some 41), none, .load 22 (tm 40) none⟩,
 ⟨(some 42), none, .len false 22 3 (tm 41)⟩,
 ⟨(some 43), none, .bin .rem 3 (tm 39) (tm 42)⟩,
 ⟨(some 8), none, .mov (tm 43)⟩])
 (.seq
 (.ops [⟨(some 44), none, .faddr 25 (tm 3) 1 1⟩,
 ⟨(some 45), none, .load 22 (tm 44) none⟩,
 ⟨(some 46), none, .mov (tm 8)⟩,
 ⟨(some 47), none, .iaddr 22 (tm 45) (tm 46) 2⟩,
 ⟨(some 48), none, .load 67 (tm 47) (some 2)⟩,
 ⟨(some 9), none, .alloc 67 [(.string ⟨#[]⟩), (.slice none 0 0)]⟩,
 ⟨none, none, .store 67 (tm 9) (tm 48) 2⟩])
 (.seq
 (.ops [⟨(some 49), none, .bslice 65 0 [] 69 3 [(.int .u8 0), (.int .i64 0), (.bool false)]⟩,
 ⟨(some 50), none, .faddr 67 (tm 9) 1 1⟩,
 ⟨(some 51), none, .load 65 (tm 50) none⟩,
 ⟨(some 52), none, .append 65 65 (tm 49) (tm 51) 69 3 24 [(.int .u8 0), (.int .i64 0), (.bool false)]⟩,
 ⟨(some 53), none, .faddr 67 (tm 9) 1 1⟩,
 ⟨none, none, .store 65 (tm 53) (tm 52) 1⟩])
 (.seq
 (.ops [⟨(some 54), none, .iaddrA 57 (tm 4) (kc 1) 3 1⟩,
 ⟨(some 55), none, .load 5 (tm 54) none⟩,
 ⟨(some 56), none, .toInt .i64 5 3 (tm 55)⟩,
 ⟨(some 57), none, .faddr 67 (tm 9) 1 1⟩,
 ⟨(some 58), none, .load 65 (tm 57) none⟩,
 ⟨(some 59), none, .len false 65 3 (tm 58)⟩,
 ⟨(some 60), none, .bin .rem 3 (tm 56) (tm 59)⟩,
 ⟨(some 10), none, .mov (tm 60)⟩])
 (.seq
 (.ops [⟨(some 61), none, .faddr 67 (tm 9) 1 1⟩,
 ⟨(some 62), none, .load 65 (tm 61) none⟩,
 ⟨(some 63), none, .mov (tm 10)⟩,
 ⟨(some 64), none, .iaddr 65 (tm 62) (tm 63) 3⟩,
 ⟨(some 65), none, .load 69 (tm 64) (some 3)⟩,
 ⟨(some 11), none, .alloc 69 [(.int .u8 0), (.int .i64 0), (.bool false)]⟩,
 ⟨none, none, .store 69 (tm 11) (tm 65) 3⟩])
 (.seq
 (.ops [⟨(some 66), none, .iaddrA 57 (tm 4) (kc 2) 3 1⟩,
 ⟨(some 67), none, .load 5 (tm 66) none⟩,
 ⟨(some 68), none, .toInt .i64 5 3 (tm 67)⟩,
 ⟨(some 69), none, .faddr 25 (tm 3) 0 0⟩,
 ⟨(some 70), none, .load 3 (tm 69) none⟩,
 ⟨(some 71), none, .bin .add 3 (tm 70) (kc 1)⟩,
 ⟨(some 72), none, .bin .rem 3 (tm 68) (tm 71)⟩,
 ⟨(some 12), none, .mov (tm 72)⟩])
 (.seq
 (.seq
 (.ops [⟨(some 73), none, .mov (tm 12)⟩,
 ⟨(some 74), none, .faddr 25 (tm 3) 0 0⟩,
 ⟨(some 75), none, .load 3 (tm 74) none⟩,
 ⟨(some 76), none, .bin .eql 3 (tm 73) (tm 75)⟩])
 (.ite (tm 76)
 (.ops [⟨(some 77), none, .faddr 69 (tm 11) 2 2⟩,
 ⟨none, none, .store 4 (tm 77) (.const (.bool true)) 1⟩])
 (.seq
 (.ops [⟨(some 78), none, .faddr 69 (tm 11) 1 1⟩,
 ⟨(some 79), none, .load 3 (tm 78) none⟩,
 ⟨(some 80), none, .mov (tm 12)⟩,
 ⟨(some 81), none, .call 41 [(tm 79), (tm 80)] 4⟩,
 ⟨(some 82), none, .un .not (tm 81)⟩])
 (.ite (tm 82)
 (.dops [(⟨(some 83), none, .faddr 69 (tm 11) 1 1⟩, []),
 (⟨(some 84), none, .load 3 (tm 83) none⟩, [0]),
 (⟨(some 85), none, .bslice 32 4 [(0, (kc 1)), (1, (kc 2)), (2, (kc 4)), (3, (kc 8))] 3 1 [(.int .i64 0)]⟩, []),
 (⟨(some 86), none, .mov (tm 12)⟩, []),
 (⟨(some 87), none, .iaddr 32 (tm 85) (tm 86) 1⟩, [2, 3]),
 (⟨(some 88), none, .load 3 (tm 87) none⟩, [4]),
 (⟨(some 89), none, .bin .add 3 (tm 84) (tm 88)⟩, [1, 5]),
 (⟨(some 90), none, .faddr 69 (tm 11) 1 1⟩, [0, 1, 2, 3, 4, 5, 6]),
 (⟨none, none, .store 3 (tm 90) (tm 89) 1⟩, [7, 6, 0, 1, 2, 3, 4, 5, 6])])
 .skip))))
 (.seq
 (.ops [⟨(some 91), none, .faddr 67 (tm 9) 1 1⟩,
 ⟨(some 92), none, .load 65 (tm 91) none⟩,
 ⟨(some 93), none, .mov (tm 10)⟩,
 ⟨(some 94), none, .load 69 (tm 11) (some 3)⟩,
 ⟨(some 95), none, .iaddr 65 (tm 92) (tm 93) 3⟩,
 ⟨none, none, .store 69 (tm 95) (tm 94) 3⟩])
 (.seq
 (.ops [⟨(some 96), none, .faddr 25 (tm 7) 1 1⟩,
 ⟨(some 97), none, .load 22 (tm 96) none⟩,
 ⟨(some 98), none, .mov (tm 8)⟩,
 ⟨(some 99), none, .load 67 (tm 9) (some 2)⟩,
 ⟨(some 100), none, .iaddr 22 (tm 97) (tm 98) 2⟩,
 ⟨none, none, .store 67 (tm 100) (tm 99) 2⟩])
 (.seq
 (.ops [⟨(some 102), none, .load 25 (tm 3) (some 3)⟩,
 ⟨(some 103), none, .call 31 [(tm 102)] 35⟩,
 ⟨(some 101), none, .mov (tm 103)⟩,
 ⟨(some 104), none, .extract (tm 101) 0⟩,
 ⟨(some 105), none, .extract (tm 101) 1⟩,
 ⟨(some 13), none, .mov (tm 104)⟩,
 ⟨(some 14), none, .mov (tm 105)⟩])
 (.seq
 (.ops [⟨(some 107), none, .load 25 (tm 7) (some 3)⟩,
 ⟨(some 108), none, .call 31 [(tm 107)] 35⟩,
 ⟨(some 106), none, .mov (tm 108)⟩,
 ⟨(some 109), none, .extract (tm 106) 0⟩,
 ⟨(some 110), none, .extract (tm 106) 1⟩,
 ⟨(some 15), none, .mov (tm 109)⟩,
 ⟨(some 16), none, .mov (tm 110)⟩])
 (.seq
 (.seq
 (.ops [⟨(some 111), none, .mov (tm 14)⟩,
 ⟨(some 112), none, .bin .neq 26 (tm 111) (kc 0)⟩,
 ⟨(some 113), none, .mov (tm 112)⟩,
 ⟨(some 114), some (113, false), .mov (tm 16)⟩,
 ⟨(some 115), some (113, false), .bin .neq 26 (tm 114) (kc 0)⟩,
 ⟨(some 116), none, .pick (tm 113) (.const (.bool true)) (tm 115)⟩,
 ⟨(some 117), none, .mov (tm 116)⟩,
 ⟨(some 118), some (117, false), .mov (tm 15)⟩,
 ⟨(some 119), some (117, false), .len false 32 3 (tm 118)⟩,
 ⟨(some 120), some (117, false), .mov (tm 13)⟩,
 ⟨(some 121), some (117, false), .len false 32 3 (tm 120)⟩,
 ⟨(some 122), some (117, false), .bin .gtr 3 (tm 119) (tm 121)⟩,
 ⟨(some 123), none, .pick (tm 117) (.const (.bool true)) (tm 122)⟩])
 (.ite (tm 123)
 (.seq
 (.ops [⟨(some 6), none, .mov (.const (.bool false))⟩])
 .ret)
 .skip))
 (.seq
 (.seq
 (.ops [⟨(some 124), none, .faddr 25 (tm 3) 2 2⟩,
 ⟨(some 125), none, .load 23 (tm 124) none⟩,
 ⟨(some 126), none, .len false 23 3 (tm 125)⟩,
 ⟨(some 127), none, .bin .eql 3 (tm 126) (kc 0)⟩])
 (.ite (tm 127)
 (.seq
 (.ops [⟨(some 128), none, .call 21 [] 4⟩,
 ⟨(some 6), none, .mov (tm 128)⟩])
 .ret)
 .skip))
 (.seq
 (.dops [(⟨(some 129), none, .iaddrA 50 (tm 5) (kc 0) 2 1⟩, []),
 (⟨(some 130), none, .load 5 (tm 129) none⟩, [0]),
 (⟨(some 131), none, .toInt .i64 5 3 (tm 130)⟩, [1]),
 (⟨(some 132), none, .faddr 25 (tm 3) 2 2⟩, []),
 (⟨(some 133), none, .load 23 (tm 132) none⟩, [3]),
 (⟨(some 134), none, .len false 23 3 (tm 133)⟩, [4]),
 (⟨(some 135), none, .bin .rem 3 (tm 131) (tm 134)⟩, [2, 5]),
 (⟨(some 136), none, .iaddrA 50 (tm 5) (kc 1) 2 1⟩, []),
 (⟨(some 137), none, .load 5 (tm 136) none⟩, [7]),
 (⟨(some 138), none, .toInt .i64 5 3 (tm 137)⟩, [8]),
 (⟨(some 139), none, .faddr 25 (tm 3) 2 2⟩, []),
 (⟨(some 140), none, .load 23 (tm 139) none⟩, [10]),
 (⟨(some 141), none, .len false 23 3 (tm 140)⟩, [11]),
 (⟨(some 142), none, .bin .rem 3 (tm 138) (tm 141)⟩, [9, 12]),
 (⟨(some 17), none, .mov (tm 135)⟩, [6, 0, 1, 2, 3, 4, 5, 6]),
 (⟨(some 18), none, .mov (tm 142)⟩, [13, 14, 0, 1, 2, 3, 4, 5, 6, 7, 8, 9, 10, 11, 12, 13, 14])])
 (.seq
 (.ops [⟨(some 144), none, .load 25 (tm 3) (some 3)⟩,
 ⟨(some 145), none, .mov (tm 17)⟩,
 ⟨(some 146), none, .call 22 [(tm 144), (tm 145)] 33⟩,
 ⟨(some 143), none, .mov (tm 146)⟩,
 ⟨(some 147), none, .extract (tm 143) 0⟩,
 ⟨(some 148), none, .extract (tm 143) 1⟩,
 ⟨(some 19), none, .mov (tm 147)⟩,
 ⟨(some 20), none, .mov (tm 148)⟩])
 (.seq
 (.ops [⟨(some 150), none, .load 25 (tm 7) (some 3)⟩,
 ⟨(some 151), none, .mov (tm 17)⟩,
 ⟨(some 152), none, .call 22 [(tm 150), (tm 151)] 33⟩,
 ⟨(some 149), none, .mov (tm 152)⟩,
 ⟨(some 153), none, .extract (tm 149) 0⟩,
 ⟨(some 154), none, .extract (tm 149) 1⟩,
 ⟨(some 21), none, .mov (tm 153)⟩,
 ⟨(some 22), none, .mov (tm 154)⟩])
 (.seq
 (.ops [⟨(some 156), none, .load 25 (tm 3) (some 3)⟩,
 ⟨(some 157), none, .mov (tm 17)⟩,
 ⟨(some 158), none, .mov (tm 18)⟩,
 ⟨(some 159), none, .call 29 [(tm 156), (tm 157), (tm 158)] 33⟩,
 ⟨(some 155), none, .mov (tm 159)⟩,
 ⟨(some 160), none, .extract (tm 155) 0⟩,
 ⟨(some 161), none, .extract (tm 155) 1⟩,
 ⟨(some 23), none, .mov (tm 160)⟩,
 ⟨(some 24), none, .mov (tm 161)⟩])
 (.seq
 (.ops [⟨(some 163), none, .load 25 (tm 7) (some 3)⟩,
 ⟨(some 164), none, .mov (tm 17)⟩,
 ⟨(some 165), none, .mov (tm 18)⟩,
 ⟨(some 166), none, .call 29 [(tm 163), (tm 164), (tm 165)] 33⟩,
 ⟨(some 162), none, .mov (tm 166)⟩,
 ⟨(some 167), none, .extract (tm 162) 0⟩,
 ⟨(some 168), none, .extract (tm 162) 1⟩,
 ⟨(some 25), none, .mov (tm 167)⟩,
 ⟨(some 26), none, .mov (tm 168)⟩])
 (.seq
 (.ops [⟨(some 169), none, .mov (tm 20)⟩,
 ⟨(some 170), none, .bin .eql 26 (tm 169) (kc 0)⟩,
 ⟨(some 171), none, .mov (tm 170)⟩,
 ⟨(some 172), some (171, true), .mov (tm 22)⟩,
 ⟨(some 173), some (171, true), .bin .eql 26 (tm 172) (kc 0)⟩,
 ⟨(some 174), none, .pick (tm 171) (tm 173) (.const (.bool false))⟩,
 ⟨(some 175), none, .mov (tm 174)⟩,
 ⟨(some 176), some (175, true), .mov (tm 19)⟩,
 ⟨(some 177), some (175, true), .mov (tm 21)⟩,
 ⟨(some 178), some (175, true), .bin .leq 3 (tm 176) (tm 177)⟩,
 ⟨(some 179), none, .pick (tm 175) (tm 178) (.const (.bool false))⟩,
 ⟨(some 180), none, .mov (tm 179)⟩,
 ⟨(some 181), some (180, true), .mov (tm 24)⟩,
 ⟨(some 182), some (180, true), .mov (tm 26)⟩,
 ⟨(some 183), some (180, true), .bin .eql 26 (tm 181) (tm 182)⟩,
 ⟨(some 184), none, .pick (tm 180) (tm 183) (.const (.bool false))⟩,
 ⟨(some 185), none, .mov (tm 184)⟩,
 ⟨(some 186), some (185, true), .mov (tm 24)⟩,
 ⟨(some 187), some (185, true), .bin .neq 26 (tm 186) (kc 0)⟩,
 ⟨(some 188), some (185, true), .mov (tm 187)⟩,
 ⟨(some 189), some (188, false), .mov (tm 23)⟩,
 ⟨(some 190), some (188, false), .bin .eql 3 (tm 189) (kc 2)⟩,
 ⟨(some 191), some (185, true), .pick (tm 188) (.const (.bool true)) (tm 190)⟩,
 ⟨(some 192), some (185, true), .mov (tm 191)⟩,
 ⟨(some 193), some (192, false), .mov (tm 25)⟩,
 ⟨(some 194), some (192, false), .bin .neq 3 (tm 193) (kc 2)⟩,
 ⟨(some 195), some (185, true), .pick (tm 192) (.const (.bool true)) (tm 194)⟩,
 ⟨(some 196), none, .pick (tm 185) (tm 195) (.const (.bool false))⟩,
 ⟨(some 197), none, .mov (tm 196)⟩,
 ⟨(some 198), some (197, true), .call 21 [] 4⟩,
 ⟨(some 199), none, .pick (tm 197) (tm 198) (.const (.bool false))⟩,
 ⟨(some 6), none, .mov (tm 199)⟩])
 .ret)))))))))))))))))))))))
theorem fn13 : FnOK Try.prog 13 200 [.tmp 6] L13 := ⟨Try.f13, Try.func13, by kernel_rfl, Try.ntmps13, by rw [Try.results13], by kernel_rfl⟩
def L14 : LCode :=
 (.seq
 (.ops [⟨(some 2), none, .box 25 (tm 0)⟩,
 ⟨(some 4), none, .mov (.const (.bool false))⟩])
 (.seq
 (.seq
 (.ops [⟨(some 16), none, .load 25 (tm 2) (some 3)⟩,
 ⟨(some 17), none, .call 38 [(tm 16)] 4⟩,
 ⟨(some 18), none, .un .not (tm 17)⟩,
 ⟨(some 19), none, .mov (tm 18)⟩,
 ⟨(some 20), some (19, false), .faddr 25 (tm 2) 2 2⟩,
 ⟨(some 21), some (19, false), .load 23 (tm 20) none⟩,
 ⟨(some 22), some (19, false), .len false 23 3 (tm 21)⟩,
 ⟨(some 23), some (19, false), .bin .eql 3 (tm 22) (kc 0)⟩,
 ⟨(some 24), none, .pick (tm 19) (.const (.bool true)) (tm 23)⟩])
 (.ite (tm 24)
 (.seq
 (.ops [⟨(some 26), none, .load 25 (tm 2) (some 3)⟩,
 ⟨(some 27), none, .call 24 [(tm 26), (kc 0)] 35⟩,
 ⟨(some 25), none, .mov (tm 27)⟩,
 ⟨(some 28), none, .extract (tm 25) 0⟩,
 ⟨(some 29), none, .extract (tm 25) 1⟩,
 ⟨(some 5), none, .mov (tm 28)⟩,
 ⟨(some 6), none, .mov (tm 29)⟩])
 (.seq
 (.ops [⟨(some 30), none, .mov (tm 6)⟩,
 ⟨(some 31), none, .bin .neq 26 (tm 30) (kc 0)⟩,
 ⟨(some 32), none, .mov (tm 31)⟩,
 ⟨(some 33), some (32, true), .call 21 [] 4⟩,
 ⟨(some 34), none, .pick (tm 32) (tm 33) (.const (.bool false))⟩,
 ⟨(some 4), none, .mov (tm 34)⟩])
 .ret))
 .skip))
 (.seq
 (.ops [⟨(some 35), none, .mov (tm 1)⟩,
 ⟨(some 36), none, .toInt .i64 5 3 (tm 35)⟩,
 ⟨(some 37), none, .faddr 25 (tm 2) 2 2⟩,
 ⟨(some 38), none, .load 23 (tm 37) none⟩,
 ⟨(some 39), none, .len false 23 3 (tm 38)⟩,
 ⟨(some 40), none, .bin .rem 3 (tm 36) (tm 39)⟩,
 ⟨(some 7), none, .mov (tm 40)⟩])
 (.seq
 (.ops [⟨(some 41), none, .faddr 25 (tm 2) 2 2⟩,
 ⟨(some 42), none, .load 23 (tm 41) none⟩,
 ⟨(some 43), none, .mov (tm 7)⟩,
 ⟨(some 44), none, .iaddr 23 (tm 42) (tm 43) 2⟩,
 ⟨(some 45), none, .load 55 (tm 44) (some 2)⟩,
 ⟨(some 8), none, .alloc 55 [(.int .i64 0), (.string ⟨#[]⟩)]⟩,
 ⟨none, none, .store 55 (tm 8) (tm 45) 2⟩])
 (.seq
 (.ops [⟨(some 9), none, .mov (kc 1)⟩])
 (.seq
 (.seq
 (.ops [⟨(some 10), none, .mov (kc 0)⟩])
 (.block 0
 (.loop
 (.seq
 (.seq
 (.ops [⟨(some 46), none, .mov (tm 10)⟩,
 ⟨(some 47), none, .faddr 55 (tm 8) 1 1⟩,
 ⟨(some 48), none, .load 9 (tm 47) none⟩,
 ⟨(some 49), none, .len true 9 3 (tm 48)⟩,
 ⟨(some 50), none, .bin .lss 3 (tm 46) (tm 49)⟩])
 (.ite (tm 50)
 .skip
 (.exit 0)))
 (.seq
 (.block 1
 (.seq
 (.ops [⟨(some 53), none, .load 25 (tm 2) (some 3)⟩,
 ⟨(some 11), none, .alloc 25 [(.int .i64 0), (.slice none 0 0), (.slice none 0 0)]⟩,
 ⟨none, none, .store 25 (tm 11) (tm 53) 3⟩])
 (.seq
 (.dops [(⟨(some 54), none, .faddr 55 (tm 8) 0 0⟩, []),
 (⟨(some 55), none, .load 3 (tm 54) none⟩, [0]),
 (⟨(some 56), none, .faddr 55 (tm 8) 1 1⟩, []),
 (⟨(some 57), none, .load 9 (tm 56) none⟩, [2]),
 (⟨(some 58), none, .mov (tm 10)⟩, []),
 (⟨(some 59), none, .mov (tm 10)⟩, []),
 (⟨(some 60), none, .bin .add 3 (tm 59) (kc 1)⟩, [5]),
 (⟨(some 61), none, .sliceS 9 (tm 57) (some (tm 58)) (some (tm 60)) none⟩, [3, 4, 6]),
 (⟨(some 62), none, .build 55 [(0, (tm 55)), (1, (tm 61))] [(.int .i64 0), (.string ⟨#[]⟩)] [(0, 1, (tm 55)), (1, 1, (tm 61))]⟩, [1, 7]),
 (⟨(some 63), none, .bslice 23 1 [(0, (tm 62))] 55 2 [(.int .i64 0), (.string ⟨#[]⟩)]⟩, [8]),
 (⟨(some 64), none, .faddr 25 (tm 11) 2 2⟩, [0, 1, 2, 3, 4, 5, 6, 7, 8, 9]),
 (⟨none, none, .store 23 (tm 64) (tm 63) 1⟩, [10, 9, 0, 1, 2, 3, 4, 5, 6, 7, 8, 9])])
 (.seq
 (.ops [⟨(some 66), none, .load 25 (tm 11) (some 3)⟩,
 ⟨(some 67), none, .call 22 [(tm 66), (kc 0)] 33⟩,
 ⟨(some 65), none, .mov (tm 67)⟩,
 ⟨(some 68), none, .extract (tm 65) 0⟩,
 ⟨(some 69), none, .extract (tm 65) 1⟩,
 ⟨(some 12), none, .mov (tm 68)⟩,
 ⟨(some 13), none, .mov (tm 69)⟩])
 (.seq
 (.seq
 (.ops [⟨(some 70), none, .mov (tm 13)⟩,
 ⟨(some 71), none, .bin .neq 26 (tm 70) (kc 0)⟩,
 ⟨(some 72), none, .mov (tm 71)⟩,
 ⟨(some 73), some (72, false), .mov (tm 12)⟩,
 ⟨(some 74), some (72, false), .bin .lss 3 (tm 73) (kc 1)⟩,
 ⟨(some 75), none, .pick (tm 72) (.const (.bool true)) (tm 74)⟩,
 ⟨(some 76), none, .mov (tm 75)⟩,
 ⟨(some 77), some (76, false), .mov (tm 12)⟩,
 ⟨(some 78), some (76, false), .faddr 25 (tm 2) 0 0⟩,
 ⟨(some 79), some (76, false), .load 3 (tm 78) none⟩,
 ⟨(some 80), some (76, false), .bin .add 3 (tm 79) (kc 1)⟩,
 ⟨(some 81), some (76, false), .bin .gtr 3 (tm 77) (tm 80)⟩,
 ⟨(some 82), none, .pick (tm 76) (.const (.bool true)) (tm 81)⟩])
 (.ite (tm 82)
 (.seq
 (.ops [⟨(some 4), none, .mov (.const (.bool false))⟩])
 .ret)
 .skip))
 (.ops [⟨(some 83), none, .mov (tm 9)⟩,
 ⟨(some 84), none, .mov (tm 12)⟩,
 ⟨(some 85), none, .bin .mul 3 (tm 83) (tm 84)⟩,
 ⟨(some 9), none, .mov (tm 85)⟩]))))))
 (.ops [⟨(some 51), none, .mov (tm 10)⟩,
 ⟨(some 52), none, .bin .add 3 (tm 51) (kc 1)⟩,
 ⟨(some 10), none, .mov (tm 52)⟩]))))))
 (.seq
 (.ops [⟨(some 87), none, .load 25 (tm 2) (some 3)⟩,
 ⟨(some 88), none, .mov (tm 7)⟩,
 ⟨(some 89), none, .call 22 [(tm 87), (tm 88)] 33⟩,
 ⟨(some 86), none, .mov (tm 89)⟩,
 ⟨(some 90), none, .extract (tm 86) 0⟩,
 ⟨(some 91), none, .extract (tm 86) 1⟩,
 ⟨(some 14), none, .mov (tm 90)⟩,
 ⟨(some 15), none, .mov (tm 91)⟩])
 (.seq
 (.ops [⟨(some 92), none, .mov (tm 15)⟩,
 ⟨(some 93), none, .bin .eql 26 (tm 92) (kc 0)⟩,
 ⟨(some 94), none, .mov (tm 93)⟩,
 ⟨(some 95), some (94, true), .mov (tm 14)⟩,
 ⟨(some 96), some (94, true), .bin .geq 3 (tm 95) (kc 1)⟩,
 ⟨(some 97), none, .pick (tm 94) (tm 96) (.const (.bool false))⟩,
 ⟨(some 98), none, .mov (tm 97)⟩,
 ⟨(some 99), some (98, true), .mov (tm 14)⟩,
 ⟨(some 100), some (98, true), .mov (tm 9)⟩,
 ⟨(some 101), some (98, true), .bin .leq 3 (tm 99) (tm 100)⟩,
 ⟨(some 102), none, .pick (tm 98) (tm 101) (.const (.bool false))⟩,
 ⟨(some 103), none, .mov (tm 102)⟩,
 ⟨(some 104), some (103, true), .call 21 [] 4⟩,
 ⟨(some 105), none, .pick (tm 103) (tm 104) (.const (.bool false))⟩,
 ⟨(some 4), none, .mov (tm 105)⟩])
 .ret))))))))
theorem fn14 : FnOK Try.prog 14 106 [.tmp 4] L14 := ⟨Try.f14, Try.func14, by kernel_rfl, Try.ntmps14, by rw [Try.results14], by kernel_rfl⟩
def L15 : LCode :=
 (.seq
 (.ops [⟨(some 3), none, .box 25 (tm 0)⟩,
 ⟨(some 6), none, .mov (.const (.bool false))⟩])
 (.seq
 (.ops [⟨(some 7), none, .mov (.const (.slice none 0 0))⟩])
 (.seq
 (.seq
 (.ops [⟨(some 8), none, .mov (kc 0)⟩])
 (.block 0
 (.loop
 (.seq
 (.seq
 (.ops [⟨(some 18), none, .mov (tm 8)⟩,
 ⟨(some 19), none, .faddr 25 (tm 3) 2 2⟩,
 ⟨(some 20), none, .load 23 (tm 19) none⟩,
 ⟨(some 21), none, .len false 23 3 (tm 20)⟩,
 ⟨(some 22), none, .bin .lss 3 (tm 18) (tm 21)⟩,
 ⟨(some 23), none, .mov (tm 22)⟩,
 ⟨(some 24), some (23, true), .mov (tm 8)⟩,
 ⟨(some 25), some (23, true), .bin .lss 3 (tm 24) (kc 8)⟩,
 ⟨(some 26), none, .pick (tm 23) (tm 25) (.const (.bool false))⟩])
 (.ite (tm 26)
 .skip
 (.exit 0)))
 (.seq
 (.block 1
 (.seq
 (.ops [⟨(some 29), none, .mov (tm 1)⟩,
 ⟨(some 30), none, .toInt .i64 5 3 (tm 29)⟩,
 ⟨(some 31), none, .mov (tm 8)⟩,
 ⟨(some 32), none, .call 41 [(tm 30), (tm 31)] 4⟩])
 (.ite (tm 32)
 (.ops [⟨(some 33), none, .mov (tm 7)⟩,
 ⟨(some 34), none, .mov (tm 8)⟩,
 ⟨(some 35), none, .bslice 32 1 [(0, (tm 34))] 3 1 [(.int .i64 0)]⟩,
 ⟨(some 36), none, .append 32 32 (tm 33) (tm 35) 3 1 8 [(.int .i64 0)]⟩,
 ⟨(some 7), none, .mov (tm 36)⟩])
 .skip)))
 (.ops [⟨(some 27), none, .mov (tm 8)⟩,
 ⟨(some 28), none, .bin .add 3 (tm 27) (kc 1)⟩,
 ⟨(some 8), none, .mov (tm 28)⟩]))))))
 (.seq
 (.ops [⟨(some 38), none, .load 25 (tm 3) (some 3)⟩,
 ⟨(some 39), none, .mov (tm 7)⟩,
 ⟨(some 40), none, .call 33 [(tm 38), (tm 39)] 35⟩,
 ⟨(some 37), none, .mov (tm 40)⟩,
 ⟨(some 41), none, .extract (tm 37) 0⟩,
 ⟨(some 42), none, .extract (tm 37) 1⟩,
 ⟨(some 9), none, .mov (tm 41)⟩,
 ⟨(some 10), none, .mov (tm 42)⟩])
 (.seq
 (.seq
 (.ops [⟨(some 43), none, .load 25 (tm 3) (some 3)⟩,
 ⟨(some 44), none, .call 38 [(tm 43)] 4⟩,
 ⟨(some 45), none, .un .not (tm 44)⟩,
 ⟨(some 46), none, .mov (tm 45)⟩,
 ⟨(some 47), some (46, false), .mov (tm 7)⟩,
 ⟨(some 48), some (46, false), .len false 32 3 (tm 47)⟩,
 ⟨(some 49), some (46, false), .bin .eql 3 (tm 48) (kc 0)⟩,
 ⟨(some 50), none, .pick (tm 46) (.const (.bool true)) (tm 49)⟩])
 (.ite (tm 50)
 (.seq
 (.ops [⟨(some 51), none, .mov (tm 10)⟩,
 ⟨(some 52), none, .bin .neq 26 (tm 51) (kc 0)⟩,
 ⟨(some 53), none, .mov (tm 52)⟩,
 ⟨(some 54), some (53, true), .mov (tm 9)⟩,
 ⟨(some 55), some (53, true), .len false 32 3 (tm 54)⟩,
 ⟨(some 56), some (53, true), .bin .eql 3 (tm 55) (kc 0)⟩,
 ⟨(some 57), none, .pick (tm 53) (tm 56) (.const (.bool false))⟩,
 ⟨(some 58), none, .mov (tm 57)⟩,
 ⟨(some 59), some (58, true), .call 21 [] 4⟩,
 ⟨(some 60), none, .pick (tm 58) (tm 59) (.const (.bool false))⟩,
 ⟨(some 6), none, .mov (tm 60)⟩])
 .ret)
 .skip))
 (.seq
 (.ops [⟨(some 11), none, .mov (.const (.slice none 0 0))⟩])
 (.seq
 (.seq
 (.ops [⟨(some 12), none, .mov (kc 0)⟩])
 (.block 2
 (.loop
 (.seq
 (.seq
 (.ops [⟨(some 61), none, .mov (tm 12)⟩,
 ⟨(some 62), none, .mov (tm 7)⟩,
 ⟨(some 63), none, .len false 32 3 (tm 62)⟩,
 ⟨(some 64), none, .bin .lss 3 (tm 61) (tm 63)⟩])
 (.ite (tm 64)
 .skip
 (.exit 2)))
 (.seq
 (.block 3
 (.seq
 (.ops [⟨(some 67), none, .mov (tm 12)⟩,
 ⟨(some 68), none, .mov (tm 2)⟩,
 ⟨(some 69), none, .toInt .i64 5 3 (tm 68)⟩,
 ⟨(some 70), none, .mov (tm 7)⟩,
 ⟨(some 71), none, .len false 32 3 (tm 70)⟩,
 ⟨(some 72), none, .bin .rem 3 (tm 69) (tm 71)⟩,
 ⟨(some 73), none, .bin .neq 3 (tm 67) (tm 72)⟩])
 (.ite (tm 73)
 (.ops [⟨(some 74), none, .mov (tm 11)⟩,
 ⟨(some 75), none, .mov (tm 7)⟩,
 ⟨(some 76), none, .mov (tm 12)⟩,
 ⟨(some 77), none, .iaddr 32 (tm 75) (tm 76) 1⟩,
 ⟨(some 78), none, .load 3 (tm 77) none⟩,
 ⟨(some 79), none, .bslice 32 1 [(0, (tm 78))] 3 1 [(.int .i64 0)]⟩,
 ⟨(some 80), none, .append 32 32 (tm 74) (tm 79) 3 1 8 [(.int .i64 0)]⟩,
 ⟨(some 11), none, .mov (tm 80)⟩])
 .skip)))
 (.ops [⟨(some 65), none, .mov (tm 12)⟩,
 ⟨(some 66), none, .bin .add 3 (tm 65) (kc 1)⟩,
 ⟨(some 12), none, .mov (tm 66)⟩]))))))
 (.seq
 (.seq
 (.ops [⟨(some 81), none, .mov (tm 10)⟩,
 ⟨(some 82), none, .bin .neq 26 (tm 81) (kc 0)⟩])
 (.ite (tm 82)
 (.seq
 (.ops [⟨(some 83), none, .mov (tm 10)⟩,
 ⟨(some 84), none, .bin .eql 26 (tm 83) (kc 9)⟩,
 ⟨(some 85), none, .mov (tm 84)⟩,
 ⟨(some 86), some (85, true), .mov (tm 7)⟩,
 ⟨(some 87), some (85, true), .len false 32 3 (tm 86)⟩,
 ⟨(some 88), some (85, true), .bin .gtr 3 (tm 87) (kc 1)⟩,
 ⟨(some 89), none, .pick (tm 85) (tm 88) (.const (.bool false))⟩,
 ⟨(some 90), none, .mov (tm 89)⟩,
 ⟨(some 91), some (90, true), .mov (tm 9)⟩,
 ⟨(some 92), some (90, true), .len false 32 3 (tm 91)⟩,
 ⟨(some 93), some (90, true), .bin .eql 3 (tm 92) (kc 0)⟩,
 ⟨(some 94), none, .pick (tm 90) (tm 93) (.const (.bool false))⟩,
 ⟨(some 95), none, .mov (tm 94)⟩,
 ⟨(some 96), some (95, true), .call 21 [] 4⟩,
 ⟨(some 97), none, .pick (tm 95) (tm 96) (.const (.bool false))⟩,
 ⟨(some 6), none, .mov (tm 97)⟩])
 .ret)
 .skip))
 (.seq
 (.seq
 (.ops [⟨(some 13), none, .mov (kc 0)⟩])
 (.block 4
 (.loop
 (.seq
 (.seq
 (.ops [⟨(some 98), none, .mov (tm 13)⟩,
 ⟨(some 99), none, .mov (tm 7)⟩,
 ⟨(some 100), none, .len false 32 3 (tm 99)⟩,
 ⟨(some 101), none, .bin .lss 3 (tm 98) (tm 100)⟩])
 (.ite (tm 101)
 .skip
 (.exit 4)))
 (.seq
 (.block 5
 (.seq
 (.dops [(⟨(some 105), none, .load 25 (tm 3) (some 3)⟩, []),
 (⟨(some 106), none, .mov (tm 7)⟩, []),
 (⟨(some 107), none, .mov (tm 13)⟩, []),
 (⟨(some 108), none, .iaddr 32 (tm 106) (tm 107) 1⟩, [1, 2]),
 (⟨(some 109), none, .load 3 (tm 108) none⟩, [3]),
 (⟨(some 110), none, .mov (tm 9)⟩, []),
 (⟨(some 111), none, .call 27 [(tm 105), (tm 109), (tm 110)] 38⟩, [0, 4, 5]),
 (⟨(some 104), none, .mov (tm 111)⟩, [6]),
 (⟨(some 112), none, .extract (tm 104) 0⟩, [7]),
 (⟨(some 113), none, .extract (tm 104) 1⟩, [7]),
 (⟨(some 14), none, .mov (tm 112)⟩, [8, 6, 0, 1, 2, 3, 4, 5, 6, 7, 8]),
 (⟨(some 15), none, .mov (tm 113)⟩, [9, 10, 0, 1, 2, 3, 4, 5, 6, 7, 8, 9, 10])])
 (.seq
 (.ops [⟨(some 114), none, .mov (tm 15)⟩,
 ⟨(some 115), none, .bin .neq 26 (tm 114) (kc 0)⟩,
 ⟨(some 116), none, .mov (tm 115)⟩,
 ⟨(some 117), some (116, false), .mov (tm 14)⟩,
 ⟨(some 118), some (116, false), .un .not (tm 117)⟩,
 ⟨(some 119), none, .pick (tm 116) (.const (.bool true)) (tm 118)⟩])
 (.ite (tm 119)
 (.seq
 (.ops [⟨(some 6), none, .mov (.const (.bool false))⟩])
 .ret)
 .skip))))
 (.ops [⟨(some 102), none, .mov (tm 13)⟩,
 ⟨(some 103), none, .bin .add 3 (tm 102) (kc 1)⟩,
 ⟨(some 13), none, .mov (tm 103)⟩]))))))
 (.seq
 (.seq
 (.ops [⟨(some 120), none, .mov (tm 11)⟩,
 ⟨(some 121), none, .len false 32 3 (tm 120)⟩,
 ⟨(some 122), none, .bin .eql 3 (tm 121) (kc 0)⟩])
 (.ite (tm 122)
 (.seq
 (.ops [⟨(some 123), none, .call 21 [] 4⟩,
 ⟨(some 6), none, .mov (tm 123)⟩])
 .ret)
 .skip))
 (.seq
 (.ops [⟨(some 125), none, .load 25 (tm 3) (some 3)⟩,
 ⟨(some 126), none, .mov (tm 11)⟩,
 ⟨(some 127), none, .call 33 [(tm 125), (tm 126)] 35⟩,
 ⟨(some 124), none, .mov (tm 127)⟩,
 ⟨(some 128), none, .extract (tm 124) 0⟩,
 ⟨(some 129), none, .extract (tm 124) 1⟩,
 ⟨(some 16), none, .mov (tm 128)⟩,
 ⟨(some 17), none, .mov (tm 129)⟩])
 (.seq
 (.ops [⟨(some 130), none, .mov (tm 17)⟩,
 ⟨(some 131), none, .bin .eql 26 (tm 130) (kc 0)⟩,
 ⟨(some 132), none, .mov (tm 131)⟩,
 ⟨(some 133), some (132, true), .mov (tm 9)⟩,
 ⟨(some 134), some (132, true), .mov (tm 16)⟩,
 ⟨(some 135), some (132, true), .call 40 [(tm 133), (tm 134)] 4⟩,
 ⟨(some 136), some (132, true), .un .not (tm 135)⟩,
 ⟨(some 137), none, .pick (tm 132) (tm 136) (.const (.bool false))⟩,
 ⟨(some 138), none, .mov (tm 137)⟩,
 ⟨(some 139), some (138, true), .call 21 [] 4⟩,
 ⟨(some 140), none, .pick (tm 138) (tm 139) (.const (.bool false))⟩,
 ⟨(some 6), none, .mov (tm 140)⟩])
 .ret))))))))))))
theorem fn15 : FnOK Try.prog 15 141 [.tmp 6] L15 := ⟨Try.f15, Try.func15, by kernel_rfl, Try.ntmps15, by rw [Try.results15], by kernel_rfl⟩
def L16 : LCode :=
 (.seq
 (.ops [⟨(some 3), none, .box 25 (tm 0)⟩,
 ⟨(some 4), none, .box 41 (tm 1)⟩,
 ⟨(some 6), none, .mov (.const (.bool false))⟩])
 (.seq
 (.seq
 (.ops [⟨(some 34), none, .load 25 (tm 3) (some 3)⟩,
 ⟨(some 35), none, .call 38 [(tm 34)] 4⟩,
 ⟨(some 36), none, .un .not (tm 35)⟩])
 (.ite (tm 36)
 (.seq
 (.ops [⟨(some 37), none, .call 21 [] 4⟩,
 ⟨(some 6), none, .mov (tm 37)⟩])
 .ret)
 .skip))
 (.seq
 (.dops [(⟨(some 38), none, .load 25 (tm 3) (some 3)⟩, []),
 (⟨(some 39), none, .load 25 (tm 3) (some 3)⟩, []),
 (⟨(some 7), none, .alloc 25 [(.int .i64 0), (.slice none 0 0), (.slice none 0 0)]⟩, []),
 (⟨(some 8), none, .alloc 25 [(.int .i64 0), (.slice none 0 0), (.slice none 0 0)]⟩, []),
 (⟨none, none, .store 25 (tm 7) (tm 38) 3⟩, [2, 0, 0, 2, 3]),
 (⟨none, none, .store 25 (tm 8) (tm 39) 3⟩, [3, 1, 4, 0, 1, 2, 3, 4])])
 (.seq
 (.ops [⟨(some 40), none, .faddr 25 (tm 7) 1 1⟩,
 ⟨none, none, .store 22 (tm 40) (.const (.slice none 0 0)) 1⟩,
 ⟨(some 41), none, .faddr 25 (tm 8) 1 1⟩,
 ⟨none, none, .store 22 (tm 41) (.const (.slice none 0 0)) 1⟩])
 (.seq
 (.seq
 (.ops [⟨(some 9), none, .mov (kc 0)⟩])
 (.block 0
 (.loop
 (.seq
 (.seq
 (.ops [⟨(some 42), none, .mov (tm 9)⟩,
 ⟨(some 43), none, .faddr 25 (tm 3) 1 1⟩,
 ⟨(some 44), none, .load 22 (tm 43) none⟩,
 ⟨(some 45), none, .len false 22 3 (tm 44)⟩,
 ⟨(some 46), none, .bin .lss 3 (tm 42) (tm 45)⟩])
 (.ite (tm 46)
 .skip
 (.exit 0)))
 (.seq
 (.block 1
 (.seq
 (.ops [⟨(some 49), none, .faddr 25 (tm 3) 1 1⟩,
 ⟨(some 50), none, .load 22 (tm 49) none⟩,
 ⟨(some 51), none, .mov (tm 9)⟩,
 ⟨(some 52), none, .iaddr 22 (tm 50) (tm 51) 2⟩,
 ⟨(some 53), none, .faddr 67 (tm 52) 1 1⟩,
 ⟨(some 54), none, .load 65 (tm 53) none⟩,
 ⟨(some 10), none, .mov (tm 54)⟩])
 (.seq
 (.ops [⟨(some 11), none, .mov (.const (.slice none 0 0))⟩,
 ⟨(some 12), none, .mov (.const (.slice none 0 0))⟩])
 (.seq
 (.seq
 (.ops [⟨(some 13), none, .mov (kc 0)⟩])
 (.block 2
 (.loop
 (.seq
 (.seq
 (.ops [⟨(some 55), none, .mov (tm 13)⟩,
 ⟨(some 56), none, .mov (tm 10)⟩,
 ⟨(some 57), none, .len false 65 3 (tm 56)⟩,
 ⟨(some 58), none, .bin .lss 3 (tm 55) (tm 57)⟩])
 (.ite (tm 58)
 .skip
 (.exit 2)))
 (.seq
 (.block 3
 (.seq
 (.ops [⟨(some 61), none, .mov (tm 11)⟩,
 ⟨(some 62), none, .mov (tm 10)⟩,
 ⟨(some 63), none, .mov (tm 10)⟩,
 ⟨(some 64), none, .len false 65 3 (tm 63)⟩,
 ⟨(some 65), none, .bin .sub 3 (tm 64) (kc 1)⟩,
 ⟨(some 66), none, .mov (tm 13)⟩,
 ⟨(some 67), none, .bin .sub 3 (tm 65) (tm 66)⟩,
 ⟨(some 68), none, .iaddr 65 (tm 62) (tm 67) 3⟩,
 ⟨(some 69), none, .load 69 (tm 68) (some 3)⟩,
 ⟨(some 70), none, .bslice 65 1 [(0, (tm 69))] 69 3 [(.int .u8 0), (.int .i64 0), (.bool false)]⟩,
 ⟨(some 71), none, .append 65 65 (tm 61) (tm 70) 69 3 24 [(.int .u8 0), (.int .i64 0), (.bool false)]⟩,
 ⟨(some 11), none, .mov (tm 71)⟩])
 (.seq
 (.ops [⟨(some 72), none, .mov (tm 10)⟩,
 ⟨(some 73), none, .mov (tm 13)⟩,
 ⟨(some 74), none, .iaddr 65 (tm 72) (tm 73) 3⟩,
 ⟨(some 75), none, .load 69 (tm 74) (some 3)⟩,
 ⟨(some 14), none, .alloc 69 [(.int .u8 0), (.int .i64 0), (.bool false)]⟩,
 ⟨none, none, .store 69 (tm 14) (tm 75) 3⟩])
 (.seq
 (.ops [⟨(some 76), none, .faddr 69 (tm 14) 1 1⟩,
 ⟨none, none, .store 3 (tm 76) (kc 0) 1⟩])
 (.seq
 (.seq
 (.ops [⟨(some 15), none, .mov (kc 0)⟩])
 (.block 4
 (.loop
 (.seq
 (.seq
 (.ops [⟨(some 77), none, .mov (tm 15)⟩,
 ⟨(some 78), none, .faddr 25 (tm 3) 0 0⟩,
 ⟨(some 79), none, .load 3 (tm 78) none⟩,
 ⟨(some 80), none, .bin .lss 3 (tm 77) (tm 79)⟩])
 (.ite (tm 80)
 .skip
 (.exit 4)))
 (.seq
 (.block 5
 (.seq
 (.ops [⟨(some 83), none, .mov (tm 10)⟩,
 ⟨(some 84), none, .mov (tm 13)⟩,
 ⟨(some 85), none, .iaddr 65 (tm 83) (tm 84) 3⟩,
 ⟨(some 86), none, .faddr 69 (tm 85) 1 1⟩,
 ⟨(some 87), none, .load 3 (tm 86) none⟩,
 ⟨(some 88), none, .mov (tm 15)⟩,
 ⟨(some 89), none, .call 41 [(tm 87), (tm 88)] 4⟩])
 (.ite (tm 89)
 (.dops [(⟨(some 90), none, .faddr 69 (tm 14) 1 1⟩, []),
 (⟨(some 91), none, .load 3 (tm 90) none⟩, [0]),
 (⟨(some 92), none, .bslice 32 4 [(0, (kc 1)), (1, (kc 2)), (2, (kc 4)), (3, (kc 8))] 3 1 [(.int .i64 0)]⟩, []),
 (⟨(some 93), none, .faddr 25 (tm 3) 0 0⟩, []),
 (⟨(some 94), none, .load 3 (tm 93) none⟩, [3]),
 (⟨(some 95), none, .bin .sub 3 (tm 94) (kc 1)⟩, [4]),
 (⟨(some 96), none, .mov (tm 15)⟩, []),
 (⟨(some 97), none, .bin .sub 3 (tm 95) (tm 96)⟩, [5, 6]),
 (⟨(some 98), none, .iaddr 32 (tm 92) (tm 97) 1⟩, [2, 7]),
 (⟨(some 99), none, .load 3 (tm 98) none⟩, [8]),
 (⟨(some 100), none, .bin .add 3 (tm 91) (tm 99)⟩, [1, 9]),
 (⟨(some 101), none, .faddr 69 (tm 14) 1 1⟩, [0, 1, 2, 3, 4, 5, 6, 7, 8, 9, 10]),
 (⟨none, none, .store 3 (tm 101) (tm 100) 1⟩, [11, 10, 0, 1, 2, 3, 4, 5, 6, 7, 8, 9, 10])])
 .skip)))
 (.ops [⟨(some 81), none, .mov (tm 15)⟩,
 ⟨(some 82), none, .bin .add 3 (tm 81) (kc 1)⟩,
 ⟨(some 15), none, .mov (tm 82)⟩]))))))
 (.ops [⟨(some 102), none, .mov (tm 12)⟩,
 ⟨(some 103), none, .load 69 (tm 14) (some 3)⟩,
 ⟨(some 104), none, .bslice 65 1 [(0, (tm 103))] 69 3 [(.int .u8 0), (.int .i64 0), (.bool false)]⟩,
 ⟨(some 105), none, .append 65 65 (tm 102) (tm 104) 69 3 24 [(.int .u8 0), (.int .i64 0), (.bool false)]⟩,
 ⟨(some 12), none, .mov (tm 105)⟩]))))))
 (.ops [⟨(some 59), none, .mov (tm 13)⟩,
 ⟨(some 60), none, .bin .add 3 (tm 59) (kc 1)⟩,
 ⟨(some 13), none, .mov (tm 60)⟩]))))))
 (.seq
 (.dops [(⟨(some 106), none, .bslice 22 0 [] 67 2 [(.string ⟨#[]⟩), (.slice none 0 0)]⟩, []),
 (⟨(some 107), none, .faddr 25 (tm 7) 1 1⟩, []),
 (⟨(some 108), none, .load 22 (tm 107) none⟩, [1]),
 (⟨(some 109), none, .append 22 22 (tm 106) (tm 108) 67 2 40 [(.string ⟨#[]⟩), (.slice none 0 0)]⟩, [0, 2]),
 (⟨(some 110), none, .faddr 25 (tm 3) 1 1⟩, []),
 (⟨(some 111), none, .load 22 (tm 110) none⟩, [4]),
 (⟨(some 112), none, .mov (tm 9)⟩, []),
 (⟨(some 113), none, .iaddr 22 (tm 111) (tm 112) 2⟩, [5, 6]),
 (⟨(some 114), none, .faddr 67 (tm 113) 0 0⟩, [7]),
 (⟨(some 115), none, .load 9 (tm 114) none⟩, [8]),
 (⟨(some 116), none, .mov (tm 11)⟩, []),
 (⟨(some 117), none, .build 67 [(0, (tm 115)), (1, (tm 116))] [(.string ⟨#[]⟩), (.slice none 0 0)] [(0, 1, (tm 115)), (1, 1, (tm 116))]⟩, [9, 10]),
 (⟨(some 118), none, .bslice 22 1 [(0, (tm 117))] 67 2 [(.string ⟨#[]⟩), (.slice none 0 0)]⟩, [11]),
 (⟨(some 119), none, .append 22 22 (tm 109) (tm 118) 67 2 40 [(.string ⟨#[]⟩), (.slice none 0 0)]⟩, [3, 12, 3]),
 (⟨(some 120), none, .faddr 25 (tm 7) 1 1⟩, [0, 1, 2, 3, 4, 5, 6, 7, 8, 9, 10, 11, 12, 13]),
 (⟨none, none, .store 22 (tm 120) (tm 119) 1⟩, [14, 13, 13, 0, 1, 2, 3, 4, 5, 6, 7, 8, 9, 10, 11, 12, 13])])
 (.dops [(⟨(some 121), none, .bslice 22 0 [] 67 2 [(.string ⟨#[]⟩), (.slice none 0 0)]⟩, []),
 (⟨(some 122), none, .faddr 25 (tm 8) 1 1⟩, []),
 (⟨(some 123), none, .load 22 (tm 122) none⟩, [1]),
 (⟨(some 124), none, .append 22 22 (tm 121) (tm 123) 67 2 40 [(.string ⟨#[]⟩), (.slice none 0 0)]⟩, [0, 2]),
 (⟨(some 125), none, .faddr 25 (tm 3) 1 1⟩, []),
 (⟨(some 126), none, .load 22 (tm 125) none⟩, [4]),
 (⟨(some 127), none, .mov (tm 9)⟩, []),
 (⟨(some 128), none, .iaddr 22 (tm 126) (tm 127) 2⟩, [5, 6]),
 (⟨(some 129), none, .faddr 67 (tm 128) 0 0⟩, [7]),
 (⟨(some 130), none, .load 9 (tm 129) none⟩, [8]),
 (⟨(some 131), none, .mov (tm 12)⟩, []),
 (⟨(some 132), none, .build 67 [(0, (tm 130)), (1, (tm 131))] [(.string ⟨#[]⟩), (.slice none 0 0)] [(0, 1, (tm 130)), (1, 1, (tm 131))]⟩, [9, 10]),
 (⟨(some 133), none, .bslice 22 1 [(0, (tm 132))] 67 2 [(.string ⟨#[]⟩), (.slice none 0 0)]⟩, [11]),
 (⟨(some 134), none, .append 22 22 (tm 124) (tm 133) 67 2 40 [(.string ⟨#[]⟩), (.slice none 0 0)]⟩, [3, 12, 3]),
 (⟨(some 135), none, .faddr 25 (tm 8) 1 1⟩, [0, 1, 2, 3, 4, 5, 6, 7, 8, 9, 10, 11, 12, 13]),
 (⟨none, none, .store 22 (tm 135) (tm 134) 1⟩, [14, 13, 13, 0, 1, 2, 3, 4, 5, 6, 7, 8, 9, 10, 11, 12, 13])]))))))
 (.ops [⟨(some 47), none, .mov (tm 9)⟩,
 ⟨(some 48), none, .bin .add 3 (tm 47) (kc 1)⟩,
 ⟨(some 9), none, .mov (tm 48)⟩]))))))
 (.seq
 (.ops [⟨(some 137), none, .load 25 (tm 3) (some 3)⟩,
 ⟨(some 138), none, .iaddrA 41 (tm 4) (kc 0) 2 1⟩,
 ⟨(some 139), none, .load 3 (tm 138) none⟩,
 ⟨(some 140), none, .call 24 [(tm 137), (tm 139)] 35⟩,
 ⟨(some 136), none, .mov (tm 140)⟩,
 ⟨(some 141), none, .extract (tm 136) 0⟩,
 ⟨(some 142), none, .extract (tm 136) 1⟩,
 ⟨(some 16), none, .mov (tm 141)⟩,
 ⟨(some 17), none, .mov (tm 142)⟩])
 (.seq
 (.ops [⟨(some 144), none, .load 25 (tm 7) (some 3)⟩,
 ⟨(some 145), none, .iaddrA 41 (tm 4) (kc 0) 2 1⟩,
 ⟨(some 146), none, .load 3 (tm 145) none⟩,
 ⟨(some 147), none, .call 24 [(tm 144), (tm 146)] 35⟩,
 ⟨(some 143), none, .mov (tm 147)⟩,
 ⟨(some 148), none, .extract (tm 143) 0⟩,
 ⟨(some 149), none, .extract (tm 143) 1⟩,
 ⟨(some 18), none, .mov (tm 148)⟩,
 ⟨(some 19), none, .mov (tm 149)⟩])
 (.seq
 (.ops [⟨(some 151), none, .load 25 (tm 3) (some 3)⟩,
 ⟨(some 152), none, .iaddrA 41 (tm 4) (kc 1) 2 1⟩,
 ⟨(some 153), none, .load 3 (tm 152) none⟩,
 ⟨(some 154), none, .mov (tm 2)⟩,
 ⟨(some 155), none, .call 27 [(tm 151), (tm 153), (tm 154)] 38⟩,
 ⟨(some 150), none, .mov (tm 155)⟩,
 ⟨(some 156), none, .extract (tm 150) 0⟩,
 ⟨(some 157), none, .extract (tm 150) 1⟩,
 ⟨(some 20), none, .mov (tm 156)⟩,
 ⟨(some 21), none, .mov (tm 157)⟩])
 (.seq
 (.ops [⟨(some 159), none, .load 25 (tm 7) (some 3)⟩,
 ⟨(some 160), none, .iaddrA 41 (tm 4) (kc 1) 2 1⟩,
 ⟨(some 161), none, .load 3 (tm 160) none⟩,
 ⟨(some 162), none, .mov (tm 2)⟩,
 ⟨(some 163), none, .call 27 [(tm 159), (tm 161), (tm 162)] 38⟩,
 ⟨(some 158), none, .mov (tm 163)⟩,
 ⟨(some 164), none, .extract (tm 158) 0⟩,
 ⟨(some 165), none, .extract (tm 158) 1⟩,
 ⟨(some 22), none, .mov (tm 164)⟩,
 ⟨(some 23), none, .mov (tm 165)⟩])
 (.seq
 (.seq
 (.ops [⟨(some 166), none, .mov (tm 16)⟩,
 ⟨(some 167), none, .mov (tm 18)⟩,
 ⟨(some 168), none, .call 26 [(tm 166), (tm 167)] 4⟩,
 ⟨(some 169), none, .un .not (tm 168)⟩,
 ⟨(some 170), none, .mov (tm 169)⟩,
 ⟨(some 171), some (170, false), .mov (tm 17)⟩,
 ⟨(some 172), some (170, false), .mov (tm 19)⟩,
 ⟨(some 173), some (170, false), .bin .neq 26 (tm 171) (tm 172)⟩,
 ⟨(some 174), none, .pick (tm 170) (.const (.bool true)) (tm 173)⟩,
 ⟨(some 175), none, .mov (tm 174)⟩,
 ⟨(some 176), some (175, false), .mov (tm 20)⟩,
 ⟨(some 177), some (175, false), .mov (tm 22)⟩,
 ⟨(some 178), some (175, false), .eqT true 4 (tm 176) (tm 177)⟩,
 ⟨(some 179), none, .pick (tm 175) (.const (.bool true)) (tm 178)⟩,
 ⟨(some 180), none, .mov (tm 179)⟩,
 ⟨(some 181), some (180, false), .mov (tm 21)⟩,
 ⟨(some 182), some (180, false), .mov (tm 23)⟩,
 ⟨(some 183), some (180, false), .bin .neq 26 (tm 181) (tm 182)⟩,
 ⟨(some 184), none, .pick (tm 180) (.const (.bool true)) (tm 183)⟩])
 (.ite (tm 184)
 (.seq
 (.ops [⟨(some 6), none, .mov (.const (.bool false))⟩])
 .ret)
 .skip))
 (.seq
 (.ops [⟨(some 186), none, .load 25 (tm 3) (some 3)⟩,
 ⟨(some 187), none, .iaddrA 41 (tm 4) (kc 0) 2 1⟩,
 ⟨(some 188), none, .load 3 (tm 187) none⟩,
 ⟨(some 189), none, .call 22 [(tm 186), (tm 188)] 33⟩,
 ⟨(some 185), none, .mov (tm 189)⟩,
 ⟨(some 190), none, .extract (tm 185) 0⟩,
 ⟨(some 191), none, .extract (tm 185) 1⟩,
 ⟨(some 24), none, .mov (tm 190)⟩,
 ⟨(some 17), none, .mov (tm 191)⟩])
 (.seq
 (.ops [⟨(some 193), none, .load 25 (tm 8) (some 3)⟩,
 ⟨(some 194), none, .iaddrA 41 (tm 4) (kc 0) 2 1⟩,
 ⟨(some 195), none, .load 3 (tm 194) none⟩,
 ⟨(some 196), none, .call 22 [(tm 193), (tm 195)] 33⟩,
 ⟨(some 192), none, .mov (tm 196)⟩,
 ⟨(some 197), none, .extract (tm 192) 0⟩,
 ⟨(some 198), none, .extract (tm 192) 1⟩,
 ⟨(some 25), none, .mov (tm 197)⟩,
 ⟨(some 19), none, .mov (tm 198)⟩])
 (.seq
 (.ops [⟨(some 200), none, .load 25 (tm 3) (some 3)⟩,
 ⟨(some 201), none, .iaddrA 41 (tm 4) (kc 0) 2 1⟩,
 ⟨(some 202), none, .load 3 (tm 201) none⟩,
 ⟨(some 203), none, .iaddrA 41 (tm 4) (kc 1) 2 1⟩,
 ⟨(some 204), none, .load 3 (tm 203) none⟩,
 ⟨(some 205), none, .call 29 [(tm 200), (tm 202), (tm 204)] 33⟩,
 ⟨(some 199), none, .mov (tm 205)⟩,
 ⟨(some 206), none, .extract (tm 199) 0⟩,
 ⟨(some 207), none, .extract (tm 199) 1⟩,
 ⟨(some 26), none, .mov (tm 206)⟩,
 ⟨(some 21), none, .mov (tm 207)⟩])
 (.seq
 (.ops [⟨(some 209), none, .load 25 (tm 8) (some 3)⟩,
 ⟨(some 210), none, .iaddrA 41 (tm 4) (kc 0) 2 1⟩,
 ⟨(some 211), none, .load 3 (tm 210) none⟩,
 ⟨(some 212), none, .iaddrA 41 (tm 4) (kc 1) 2 1⟩,
 ⟨(some 213), none, .load 3 (tm 212) none⟩,
 ⟨(some 214), none, .call 29 [(tm 209), (tm 211), (tm 213)] 33⟩,
 ⟨(some 208), none, .mov (tm 214)⟩,
 ⟨(some 215), none, .extract (tm 208) 0⟩,
 ⟨(some 216), none, .extract (tm 208) 1⟩,
 ⟨(some 27), none, .mov (tm 215)⟩,
 ⟨(some 23), none, .mov (tm 216)⟩])
 (.seq
 (.ops [⟨(some 218), none, .load 25 (tm 3) (some 3)⟩,
 ⟨(some 219), none, .call 31 [(tm 218)] 35⟩,
 ⟨(some 217), none, .mov (tm 219)⟩,
 ⟨(some 220), none, .extract (tm 217) 0⟩,
 ⟨(some 221), none, .extract (tm 217) 1⟩,
 ⟨(some 28), none, .mov (tm 220)⟩,
 ⟨(some 29), none, .mov (tm 221)⟩])
 (.seq
 (.ops [⟨(some 223), none, .load 25 (tm 8) (some 3)⟩,
 ⟨(some 224), none, .call 31 [(tm 223)] 35⟩,
 ⟨(some 222), none, .mov (tm 224)⟩,
 ⟨(some 225), none, .extract (tm 222) 0⟩,
 ⟨(some 226), none, .extract (tm 222) 1⟩,
 ⟨(some 30), none, .mov (tm 225)⟩,
 ⟨(some 31), none, .mov (tm 226)⟩])
 (.seq
 (.ops [⟨(some 228), none, .load 25 (tm 7) (some 3)⟩,
 ⟨(some 229), none, .call 31 [(tm 228)] 35⟩,
 ⟨(some 227), none, .mov (tm 229)⟩,
 ⟨(some 230), none, .extract (tm 227) 0⟩,
 ⟨(some 231), none, .extract (tm 227) 1⟩,
 ⟨(some 32), none, .mov (tm 230)⟩,
 ⟨(some 33), none, .mov (tm 231)⟩])
 (.seq
 (.ops [⟨(some 232), none, .mov (tm 24)⟩,
 ⟨(some 233), none, .mov (tm 25)⟩,
 ⟨(some 234), none, .bin .eql 3 (tm 232) (tm 233)⟩,
 ⟨(some 235), none, .mov (tm 234)⟩,
 ⟨(some 236), some (235, true), .mov (tm 17)⟩,
 ⟨(some 237), some (235, true), .mov (tm 19)⟩,
 ⟨(some 238), some (235, true), .bin .eql 26 (tm 236) (tm 237)⟩,
 ⟨(some 239), none, .pick (tm 235) (tm 238) (.const (.bool false))⟩,
 ⟨(some 240), none, .mov (tm 239)⟩,
 ⟨(some 241), some (240, true), .mov (tm 26)⟩,
 ⟨(some 242), some (240, true), .mov (tm 27)⟩,
 ⟨(some 243), some (240, true), .bin .eql 3 (tm 241) (tm 242)⟩,
 ⟨(some 244), none, .pick (tm 240) (tm 243) (.const (.bool false))⟩,
 ⟨(some 245), none, .mov (tm 244)⟩,
 ⟨(some 246), some (245, true), .mov (tm 21)⟩,
 ⟨(some 247), some (245, true), .mov (tm 23)⟩,
 ⟨(some 248), some (245, true), .bin .eql 26 (tm 246) (tm 247)⟩,
 ⟨(some 249), none, .pick (tm 245) (tm 248) (.const (.bool false))⟩,
 ⟨(some 250), none, .mov (tm 249)⟩,
 ⟨(some 251), some (250, true), .mov (tm 28)⟩,
 ⟨(some 252), some (250, true), .mov (tm 30)⟩,
 ⟨(some 253), some (250, true), .call 26 [(tm 251), (tm 252)] 4⟩,
 ⟨(some 254), none, .pick (tm 250) (tm 253) (.const (.bool false))⟩,
 ⟨(some 255), none, .mov (tm 254)⟩,
 ⟨(some 256), some (255, true), .mov (tm 28)⟩,
 ⟨(some 257), some (255, true), .mov (tm 32)⟩,
 ⟨(some 258), some (255, true), .call 26 [(tm 256), (tm 257)] 4⟩,
 ⟨(some 259), none, .pick (tm 255) (tm 258) (.const (.bool false))⟩,
 ⟨(some 260), none, .mov (tm 259)⟩,
 ⟨(some 261), some (260, true), .mov (tm 29)⟩,
 ⟨(some 262), some (260, true), .mov (tm 31)⟩,
 ⟨(some 263), some (260, true), .bin .eql 26 (tm 261) (tm 262)⟩,
 ⟨(some 264), none, .pick (tm 260) (tm 263) (.const (.bool false))⟩,
 ⟨(some 265), none, .mov (tm 264)⟩,
 ⟨(some 266), some (265, true), .mov (tm 29)⟩,
 ⟨(some 267), some (265, true), .mov (tm 33)⟩,
 ⟨(some 268), some (265, true), .bin .eql 26 (tm 266) (tm 267)⟩,
 ⟨(some 269), none, .pick (tm 265) (tm 268) (.const (.bool false))⟩,
 ⟨(some 270), none, .mov (tm 269)⟩,
 ⟨(some 271), some (270, true), .call 21 [] 4⟩,
 ⟨(some 272), none, .pick (tm 270) (tm 271) (.const (.bool false))⟩,
 ⟨(some 6), none, .mov (tm 272)⟩])
 .ret))))))))))))))))))
theorem fn16 : FnOK Try.prog 16 273 [.tmp 6] L16 := ⟨Try.f16, Try.func16, by kernel_rfl, Try.ntmps16, by rw [Try.results16], by kernel_rfl⟩
def L38 : LCode :=
 (.seq
 (.ops [⟨(some 1), none, .box 25 (tm 0)⟩,
 ⟨(some 2), none, .mov (.const (.bool false))⟩])
 (.seq
 (.ops [⟨(some 7), none, .load 25 (tm 1) (some 3)⟩,
 ⟨(some 8), none, .call 18 [(tm 7)] 27⟩,
 ⟨(some 6), none, .mov (tm 8)⟩,
 ⟨(some 9), none, .extract (tm 6) 0⟩,
 ⟨(some 10), none, .extract (tm 6) 1⟩,
 ⟨(some 11), none, .extract (tm 6) 2⟩,
 ⟨(some 3), none, .mov (tm 9)⟩,
 ⟨(some 4), none, .mov (tm 10)⟩,
 ⟨(some 5), none, .mov (tm 11)⟩])
 (.seq
 (.ops [⟨(some 12), none, .mov (tm 5)⟩,
 ⟨(some 13), none, .bin .eql 26 (tm 12) (kc 0)⟩,
 ⟨(some 2), none, .mov (tm 13)⟩])
 .ret)))
theorem fn38 : FnOK Try.prog 38 14 [.tmp 2] L38 := ⟨Try.f38, Try.func38, by kernel_rfl, Try.ntmps38, by rw [Try.results38], by kernel_rfl⟩
def L39 : LCode :=
 (.seq
 (.ops [⟨(some 3), none, .box 25 (tm 0)⟩,
 ⟨(some 4), none, .box 55 (tm 1)⟩,
 ⟨(some 6), none, .mov (.const (.slice none 0 0))⟩])
 (.seq
 (.ops [⟨(some 7), none, .mov (.const (.slice none 0 0))⟩])
 (.seq
 (.seq
 (.ops [⟨(some 8), none, .mov (kc 0)⟩])
 (.block 0
 (.loop
 (.seq
 (.seq
 (.ops [⟨(some 14), none, .mov (tm 8)⟩,
 ⟨(some 15), none, .faddr 55 (tm 4) 1 1⟩,
 ⟨(some 16), none, .load 9 (tm 15) none⟩,
 ⟨(some 17), none, .len true 9 3 (tm 16)⟩,
 ⟨(some 18), none, .bin .lss 3 (tm 14) (tm 17)⟩])
 (.ite (tm 18)
 .skip
 (.exit 0)))
 (.seq
 (.block 1
 (.seq
 (.ops [⟨(some 9), none, .mov (.const (.slice none 0 0))⟩])
 (.seq
 (.ops [⟨(some 21), none, .faddr 25 (tm 3) 1 1⟩,
 ⟨(some 22), none, .load 22 (tm 21) none⟩,
 ⟨(some 23), none, .faddr 55 (tm 4) 0 0⟩,
 ⟨(some 24), none, .load 3 (tm 23) none⟩,
 ⟨(some 25), none, .iaddr 22 (tm 22) (tm 24) 2⟩,
 ⟨(some 26), none, .faddr 67 (tm 25) 1 1⟩,
 ⟨(some 27), none, .load 65 (tm 26) none⟩,
 ⟨(some 10), none, .mov (tm 27)⟩])
 (.seq
 (.seq
 (.ops [⟨(some 11), none, .mov (kc 0)⟩])
 (.block 2
 (.loop
 (.seq
 (.seq
 (.ops [⟨(some 28), none, .mov (tm 11)⟩,
 ⟨(some 29), none, .mov (tm 10)⟩,
 ⟨(some 30), none, .len false 65 3 (tm 29)⟩,
 ⟨(some 31), none, .bin .lss 3 (tm 28) (tm 30)⟩])
 (.ite (tm 31)
 .skip
 (.exit 2)))
 (.seq
 (.block 3
 (.seq
 (.seq
 (.dops [(⟨(some 34), none, .mov (tm 10)⟩, []),
 (⟨(some 35), none, .mov (tm 11)⟩, []),
 (⟨(some 36), none, .iaddr 65 (tm 34) (tm 35) 3⟩, [0, 1]),
 (⟨(some 37), none, .faddr 69 (tm 36) 0 0⟩, [2]),
 (⟨(some 38), none, .load 5 (tm 37) none⟩, [3]),
 (⟨(some 39), none, .faddr 55 (tm 4) 1 1⟩, []),
 (⟨(some 40), none, .load 9 (tm 39) none⟩, [5]),
 (⟨(some 41), none, .mov (tm 8)⟩, []),
 (⟨(some 42), none, .indexS 9 (tm 40) (tm 41)⟩, [6, 7]),
 (⟨(some 43), none, .bin .neq 5 (tm 38) (tm 42)⟩, [4, 8])])
 (.ite (tm 43)
 (.exit 3)
 .skip))
 (.seq
 (.seq
 (.ops [⟨(some 12), none, .mov (kc 0)⟩])
 (.block 4
 (.loop
 (.seq
 (.seq
 (.ops [⟨(some 44), none, .mov (tm 12)⟩,
 ⟨(some 45), none, .faddr 25 (tm 3) 0 0⟩,
 ⟨(some 46), none, .load 3 (tm 45) none⟩,
 ⟨(some 47), none, .bin .lss 3 (tm 44) (tm 46)⟩])
 (.ite (tm 47)
 .skip
 (.exit 4)))
 (.seq
 (.block 5
 (.seq
 (.ops [⟨(some 50), none, .mov (tm 10)⟩,
 ⟨(some 51), none, .mov (tm 11)⟩,
 ⟨(some 52), none, .iaddr 65 (tm 50) (tm 51) 3⟩,
 ⟨(some 53), none, .faddr 69 (tm 52) 1 1⟩,
 ⟨(some 54), none, .load 3 (tm 53) none⟩,
 ⟨(some 55), none, .mov (tm 12)⟩,
 ⟨(some 56), none, .call 41 [(tm 54), (tm 55)] 4⟩])
 (.ite (tm 56)
 (.ops [⟨(some 57), none, .mov (tm 9)⟩,
 ⟨(some 58), none, .mov (tm 12)⟩,
 ⟨(some 59), none, .bslice 32 1 [(0, (tm 58))] 3 1 [(.int .i64 0)]⟩,
 ⟨(some 60), none, .append 32 32 (tm 57) (tm 59) 3 1 8 [(.int .i64 0)]⟩,
 ⟨(some 9), none, .mov (tm 60)⟩])
 .skip)))
 (.ops [⟨(some 48), none, .mov (tm 12)⟩,
 ⟨(some 49), none, .bin .add 3 (tm 48) (kc 1)⟩,
 ⟨(some 12), none, .mov (tm 49)⟩]))))))
 (.seq
 (.ops [⟨(some 61), none, .mov (tm 10)⟩,
 ⟨(some 62), none, .mov (tm 11)⟩,
 ⟨(some 63), none, .iaddr 65 (tm 61) (tm 62) 3⟩,
 ⟨(some 64), none, .faddr 69 (tm 63) 2 2⟩,
 ⟨(some 65), none, .load 4 (tm 64) none⟩])
 (.ite (tm 65)
 (.ops [⟨(some 66), none, .mov (tm 9)⟩,
 ⟨(some 67), none, .bslice 32 1 [(0, (kc (-1)))] 3 1 [(.int .i64 0)]⟩,
 ⟨(some 68), none, .append 32 32 (tm 66) (tm 67) 3 1 8 [(.int .i64 0)]⟩,
 ⟨(some 9), none, .mov (tm 68)⟩])
 .skip)))))
 (.ops [⟨(some 32), none, .mov (tm 11)⟩,
 ⟨(some 33), none, .bin .add 3 (tm 32) (kc 1)⟩,
 ⟨(some 11), none, .mov (tm 33)⟩]))))))
 (.seq
 (.ops [⟨(some 69), none, .mov (tm 9)⟩,
 ⟨(some 70), none, .mov (tm 2)⟩,
 ⟨(some 71), none, .mov (tm 8)⟩,
 ⟨(some 72), none, .call 83 [(tm 70), (tm 71)] 3⟩,
 ⟨(some 73), none, .mov (tm 9)⟩,
 ⟨(some 74), none, .len false 32 3 (tm 73)⟩,
 ⟨(some 75), none, .bin .rem 3 (tm 72) (tm 74)⟩,
 ⟨(some 76), none, .iaddr 32 (tm 69) (tm 75) 1⟩,
 ⟨(some 77), none, .load 3 (tm 76) none⟩,
 ⟨(some 13), none, .mov (tm 77)⟩])
 (.seq
 (.ops [⟨(some 78), none, .mov (tm 13)⟩,
 ⟨(some 79), none, .bin .geq 3 (tm 78) (kc 0)⟩])
 (.ite (tm 79)
 (.ops [⟨(some 80), none, .mov (tm 7)⟩,
 ⟨(some 81), none, .mov (tm 13)⟩,
 ⟨(some 82), none, .bslice 32 1 [(0, (tm 81))] 3 1 [(.int .i64 0)]⟩,
 ⟨(some 83), none, .append 32 32 (tm 80) (tm 82) 3 1 8 [(.int .i64 0)]⟩,
 ⟨(some 7), none, .mov (tm 83)⟩])
 .skip)))))))
 (.ops [⟨(some 19), none, .mov (tm 8)⟩,
 ⟨(some 20), none, .bin .add 3 (tm 19) (kc 1)⟩,
 ⟨(some 8), none, .mov (tm 20)⟩]))))))
 (.seq
 (.ops [⟨(some 84), none, .mov (tm 7)⟩,
 ⟨(some 6), none, .mov (tm 84)⟩])
 .ret))))
theorem fn39 : FnOK Try.prog 39 85 [.tmp 6] L39 := ⟨Try.f39, Try.func39, by kernel_rfl, Try.ntmps39, by rw [Try.results39], by kernel_rfl⟩
def L83 : LCode :=
 (.seq
 (.ops [⟨(some 4), none, .mov (kc 0)⟩])
 (.seq
 (.seq
 (.ops [⟨(some 5), none, .mov (tm 0)⟩,
 ⟨(some 6), none, .len false 51 3 (tm 5)⟩,
 ⟨(some 7), none, .bin .eql 3 (tm 6) (kc 0)⟩])
 (.ite (tm 7)
 (.seq
 (.ops [⟨(some 4), none, .mov (kc 0)⟩])
 .ret)
 .skip))
 (.seq
 (.ops [⟨(some 8), none, .mov (tm 0)⟩,
 ⟨(some 9), none, .mov (tm 1)⟩,
 ⟨(some 10), none, .mov (tm 0)⟩,
 ⟨(some 11), none, .len false 51 3 (tm 10)⟩,
 ⟨(some 12), none, .bin .rem 3 (tm 9) (tm 11)⟩,
 ⟨(some 13), none, .iaddr 51 (tm 8) (tm 12) 1⟩,
 ⟨(some 14), none, .load 5 (tm 13) none⟩,
 ⟨(some 15), none, .toInt .i64 5 3 (tm 14)⟩,
 ⟨(some 4), none, .mov (tm 15)⟩])
 .ret)))
theorem fn83 : FnOK Try.prog 83 16 [.tmp 4] L83 := ⟨Try.f83, Try.func83, by kernel_rfl, Try.ntmps83, by rw [Try.results83], by kernel_rfl⟩
end Go.Px

namespace Go.Px
open Go.Proofs

theorem letter_ev (c s : Int) (q : Bool) : Ev Try.prog 82 [U c, I s, B q] (.agg [U c, I s, B q]) := by
  refine Ev.intro fn82 ?_
  refine LWp.sx (gs := []) (hs := [.lin]) rfl ⟨rfl, trivial⟩ ?_
  refine LWp.sx (gs := []) (hs := []) rfl ⟨⟨rfl, rfl, rfl, by decide⟩, trivial⟩ ?_
  refine LWp.ent (Ent.freezeLbox (t := 6) rfl) (LWp.ret (retT (.inr rfl) (.one (.cellI (n := some 3) (upd_same _ _ _) (by kernel_rfl) rfl))))

/-- The book of the examples. -/
def bookB : Book :=
  { n := 3
    al := [⟨[114, 111, 109, 97, 110], [⟨97, 1, false⟩, ⟨101, 3, false⟩, ⟨107, 4, false⟩, ⟨104, 0, true⟩]⟩, ⟨[97, 98, 106, 97, 100], [⟨107, 4, false⟩, ⟨121, 2, true⟩, ⟨110, 1, false⟩]⟩]
    ss := [⟨0, [107, 101]⟩, ⟨1, [107, 121]⟩, ⟨0, [104, 107, 97]⟩, ⟨1, [107, 110]⟩] }
theorem book_ev : Ev Try.prog 37 [] (.agg bookB.enc) := by
  refine Ev.intro fn37 ?_
  refine LWp.sx (gs := []) (hs := [.lin]) rfl ⟨rfl, trivial⟩ ?_
  refine LWp.sx (gs := []) (hs := [.ret (.agg [U 97, I 1, B false]), .ret (.agg [U 101, I 3, B false]), .ret (.agg [U 107, I 4, B false]), .ret (.agg [U 104, I 0, B true]), .ice, .lin]) rfl ⟨letter_ev 97 1 false, letter_ev 101 3 false, letter_ev 107 4 false, letter_ev 104 0 true, rfl, rfl, ⟨rfl, rfl, rfl, by decide⟩, trivial⟩ ?_
  refine LWp.ent (Ent.freezeLbox (t := 1) rfl) ?_
  refine LWp.sx (gs := []) (hs := [.ret (.agg [U 107, I 4, B false]), .ret (.agg [U 121, I 2, B true]), .ret (.agg [U 110, I 1, B false]), .ice, .lin]) rfl ⟨letter_ev 107 4 false, letter_ev 121 2 true, letter_ev 110 1 false, rfl, rfl, ⟨rfl, rfl, rfl, by decide⟩, trivial⟩ ?_
  refine LWp.ent (Ent.freezeLbox (t := 2) rfl) ?_
  refine LWp.sx (gs := []) (hs := [.ice, .ice]) rfl ⟨rfl, rfl, ⟨rfl, rfl, rfl, by decide⟩, trivial⟩ ?_
  refine LWp.ent (Ent.freezeLbox (t := 0) rfl) (LWp.ret (retT (.inr rfl) (.one (.cellI (n := some 3) (upd_same _ _ _) (by kernel_rfl) rfl))))

theorem bookB_wf : bookB.wf := by
  refine ⟨by decide, by decide, ?_, ?_⟩
  · intro a ha
    simp only [bookB, List.mem_cons, List.not_mem_nil, or_false] at ha
    rcases ha with rfl | rfl
    · refine ⟨by decide, ?_⟩
      intro x hx
      simp only [List.mem_cons, List.not_mem_nil, or_false] at hx
      rcases hx with rfl | rfl | rfl | rfl <;> exact ⟨by decide, by decide, by decide, by decide⟩
    · refine ⟨by decide, ?_⟩
      intro x hx
      simp only [List.mem_cons, List.not_mem_nil, or_false] at hx
      rcases hx with rfl | rfl | rfl <;> exact ⟨by decide, by decide, by decide, by decide⟩
  · intro s hs
    simp only [bookB, List.mem_cons, List.not_mem_nil, or_false] at hs
    rcases hs with rfl | rfl | rfl | rfl <;> exact ⟨by decide, by decide, by decide⟩
theorem awake_facts : countR bookB 0 = (2, 0) ∧ firstR bookB 1 = ([2], 0) ∧ readsR bookB 1 [2, 1] = (true, 0) ∧ readsR bookB 1 [2, 0] = (false, 0) ∧ alikeR bookB 2 3 = (1, 0) ∧ alikeR bookB 0 1 = (0, 0) ∧ alikeR bookB 1 2 = (2, 0) ∧
    commonR bookB [0, 2, 3] = ([2, 0], 0) ∧ commonR bookB [1, 2] = ([], 9) ∧ oddR bookB = ([1], 0) ∧ spellR bookB 0 [2, 1] = ([107, 101], 0) ∧ spellR bookB 1 [0, 0] = ([110, 110], 0) ∧ nameB [97, 46, 57] = true ∧ nameB [46, 97] = false := by
  refine ⟨?_, ?_, ?_, ?_, ?_, ?_, ?_, ?_, ?_, ?_, ?_, ?_, ?_, ?_⟩ <;> kernel_rfl

theorem awake_ev : Ev Try.prog 21 [] (B true) := by
  obtain ⟨f1, f2, f3, f4, f5, f6, f7, f8, f9, f10, f11, f12, f13, f14⟩ := awake_facts
  have hsl : bookB.ss.length ≤ 9223372036854775807 := by decide
  have hal : bookB.al.length ≤ 9223372036854775807 := by decide
  have e1 := count_ev bookB bookB_wf hsl 0
  have e2 := efirst_ev bookB bookB_wf hsl 1
  have e3 := ereads_ev bookB bookB_wf hsl 1 [2, 1]
  have e4 := ereads_ev bookB bookB_wf hsl 1 [2, 0]
  have e5 := ealike_ev bookB bookB_wf hsl 2 3
  have e6 := ealike_ev bookB bookB_wf hsl 0 1
  have e7 := ealike_ev bookB bookB_wf hsl 1 2
  have e8 := ecommon_ev bookB bookB_wf hsl [0, 2, 3]
  have e9 := ecommon_ev bookB bookB_wf hsl [1, 2]
  have e10 := eodd_ev bookB bookB_wf hsl
  have e11 := espell_ev bookB bookB_wf hal 0 [2, 1]
  have e12 := espell_ev bookB bookB_wf hal 1 [0, 0]
  have e13 := name_ev [97, 46, 57] (by decide)
  have e14 := name_ev [46, 97] (by decide)
  rw [f1] at e1
  rw [f2] at e2
  rw [f3] at e3
  rw [f4] at e4
  rw [f5] at e5
  rw [f6] at e6
  rw [f7] at e7
  rw [f8] at e8
  rw [f9] at e9
  rw [f10] at e10
  rw [f11] at e11
  rw [f12] at e12
  rw [f13] at e13
  rw [f14] at e14
  refine Ev.intro fn21 ?_
  refine LWp.sx (gs := []) (hs := []) rfl trivial ?_
  refine LWp.sx (gs := []) (hs := [.ret (.agg bookB.enc), .lin]) rfl ⟨book_ev, rfl, ⟨rfl, rfl, rfl, by decide⟩, trivial⟩ ?_
  refine LWp.ent (Ent.freezeLbox (t := 1) rfl) ?_
  refine LWp.sx (gs := []) (hs := [.ret (.tup [I 2, I 0])]) rfl ⟨e1, trivial⟩ ?_
  refine LWp.sx (gs := []) (hs := [.ret (.tup [ints [2], I 0])]) rfl ⟨e2, trivial⟩ ?_
  refine LWp.sx (gs := []) (hs := [.ice, .ret (.tup [B true, I 0])]) rfl ⟨rfl, e3, trivial⟩ ?_
  refine LWp.sx (gs := []) (hs := [.ice, .ret (.tup [B false, I 0])]) rfl ⟨rfl, e4, trivial⟩ ?_
  refine LWp.sx (gs := []) (hs := [.ret (.tup [I 1, I 0])]) rfl ⟨e5, trivial⟩ ?_
  refine LWp.sx (gs := []) (hs := [.ret (.tup [I 0, I 0])]) rfl ⟨e6, trivial⟩ ?_
  refine LWp.sx (gs := []) (hs := [.ret (.tup [I 2, I 0])]) rfl ⟨e7, trivial⟩ ?_
  refine LWp.sx (gs := []) (hs := [.ice, .ret (.tup [ints [2, 0], I 0])]) rfl ⟨rfl, e8, trivial⟩ ?_
  refine LWp.sx (gs := []) (hs := [.ice, .ret (.tup [ints [], I 9])]) rfl ⟨rfl, e9, trivial⟩ ?_
  refine LWp.sx (gs := []) (hs := [.ret (.tup [ints [1], I 0])]) rfl ⟨e10, trivial⟩ ?_
  refine LWp.sx (gs := []) (hs := [.ice, .ret (.tup [Str [107, 101], I 0])]) rfl ⟨rfl, e11, trivial⟩ ?_
  refine LWp.sx (gs := []) (hs := [.ice, .ret (.tup [Str [110, 110], I 0])]) rfl ⟨rfl, e12, trivial⟩ ?_
  have i1 := ints_ev [2] [2]
  have i2 := ints_ev [2, 0] [2, 0]
  have i3 := ints_ev [1] [1]
  refine LWp.seq (LWp.ops ?_)
  refine WOps.ent (Ent.el (l := [(3, I 0), (5, I 0), (7, I 0), (9, I 0), (11, I 0), (13, I 0), (15, I 0), (17, I 0), (19, I 9), (21, I 0), (23, I 0), (25, I 0), (2, I 2), (4, ints [2]), (6, B true), (8, B false), (10, I 1), (12, I 0), (14, I 2), (16, ints [2, 0]), (20, ints [1]), (22, Str [107, 101]), (24, Str [110, 110])]) ⟨rfl, rfl, rfl, rfl, rfl, rfl, rfl, rfl, rfl, rfl, rfl, rfl, rfl, rfl, rfl, rfl, rfl, rfl, rfl, rfl, rfl, rfl, rfl, trivial⟩) ?_
  refine WOps.xn (gs := [(95, true), (99, true), (103, true), (107, true), (111, true), (115, true), (119, true), (123, true), (127, true), (131, true), (135, true)]) (hs := []) 47 rfl rfl (by (repeat' (with_reducible apply And.intro)); (all_goals try first | (with_reducible exact trivial) | (with_reducible rfl) | ((with_reducible apply isB); first | exact rfl | exact beq_self_eq_true _))) ?_
  refine WOps.ent (Ent.el (l := [(139, B true), (2, I 2), (4, ints [2]), (6, B true), (8, B false), (10, I 1), (12, I 0), (14, I 2), (16, ints [2, 0]), (20, ints [1]), (22, Str [107, 101]), (24, Str [110, 110])]) ⟨rfl, rfl, rfl, rfl, rfl, rfl, rfl, rfl, rfl, rfl, rfl, rfl, trivial⟩) ?_
  refine WOps.xn (gs := [(139, true), (143, true), (148, true), (151, true), (155, true)]) (hs := [.ice, .ret (B true)]) 20 rfl rfl (by (repeat' (with_reducible apply And.intro)); (all_goals try first | (with_reducible exact trivial) | (with_reducible rfl) | ((with_reducible apply isB); first | exact rfl | exact beq_self_eq_true _)); exact i1) ?_
  refine WOps.ent (Ent.el (l := [(159, B true), (12, I 0), (14, I 2), (16, ints [2, 0]), (20, ints [1]), (22, Str [107, 101]), (24, Str [110, 110])]) ⟨rfl, rfl, rfl, rfl, rfl, rfl, rfl, trivial⟩) ?_
  refine WOps.xn (gs := [(159, true), (163, true), (167, true), (172, true)]) (hs := [.ice, .ret (B true), .ice, .ret (B true)]) 18 rfl rfl (by (repeat' (with_reducible apply And.intro)); (all_goals try first | (with_reducible exact trivial) | (with_reducible rfl) | ((with_reducible apply isB); first | exact rfl | exact beq_self_eq_true _)); exact i2; exact i3) ?_
  refine WOps.ent (Ent.el (l := [(177, B true), (22, Str [107, 101]), (24, Str [110, 110])]) ⟨rfl, rfl, rfl, trivial⟩) ?_
  refine WOps.xd (gs := [(177, true), (181, true), (185, true), (188, true)]) (hs := [.ret (B true), .ret (B false)]) rfl (by (repeat' (with_reducible apply And.intro)); (all_goals try first | (with_reducible exact trivial) | (with_reducible rfl) | ((with_reducible apply isB); first | exact rfl | exact beq_self_eq_true _)); exact e13; exact e14) ?_
  refine LWp.ret (retT (.inr rfl) (.one (.tmp ?_ rfl)))
  rfl
end Go.Px

namespace Go.Px
open Go.Proofs

theorem intsEq_refl (a : List Int) : intsEq a a = true := intsEq_iff.2 rfl
theorem ints_refl (a : List Int) : Ev Try.prog 26 [ints a, ints a] (B true) := by
  have := ints_ev a a
  rw [intsEq_refl] at this; exact this
theorem ub : Try.prog.underlying 4 = some .bool := by kernel_rfl

end Go.Px

