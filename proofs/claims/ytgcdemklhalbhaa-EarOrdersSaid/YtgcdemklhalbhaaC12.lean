/- Part 12 of the proofs of the outright statements of this seat (functions lowered, plain laws, contracts). No conditions. -/
import Derived.Test.YtgcdemklhalbhaaC11
namespace Go.Px
open Go.Proofs

theorem letAt_spec {ls : List Letter} {c : Int} (h : 0 ≤ indexC ls c) : letAt ls c ∈ ls ∧ (letAt ls c).c = c := by
  obtain ⟨_, x, hx, hp⟩ := idxF_lt _ ls 0 (by omega) h
  rw [Int.sub_zero] at hx
  have hx : ls[(indexC ls c).toNat]? = some x := hx
  have e : letAt ls c = x := by unfold letAt; rw [hx]; rfl
  rw [e]
  exact ⟨List.mem_of_getElem? hx, by simpa using hp⟩
theorem letter_uniq {ls : List Letter} (hn : (ls.map (·.c)).Nodup) {x y : Letter} (hx : x ∈ ls) (hy : y ∈ ls) (e : x.c = y.c) : x = y := by
  obtain ⟨i, hi⟩ := List.mem_iff_getElem?.1 hx
  obtain ⟨j, hj⟩ := List.mem_iff_getElem?.1 hy
  have h1 : (ls.map (·.c))[i]? = some x.c := by rw [List.getElem?_map, hi]; rfl
  have h2 : (ls.map (·.c))[j]? = some x.c := by rw [List.getElem?_map, hj]; simp [e]
  obtain ⟨a1, a2⟩ := List.getElem?_eq_some_iff.1 h1
  obtain ⟨b1, b2⟩ := List.getElem?_eq_some_iff.1 h2
  have := (List.getElem_inj hn).1 (a2.trans b2.symm)
  subst this
  rw [hi] at hj
  exact Option.some.inj hj

/-- Letters told the other way round. -/
def backA (a : Alph) : Alph := ⟨a.name, a.ls.reverse⟩
def Book.back (b : Book) : Book := ⟨b.n, b.al.map backA, b.ss⟩
theorem back_index {ls : List Letter} {c : Int} (h : 0 ≤ indexC ls c) : 0 ≤ indexC ls.reverse c := by
  rw [indexC_nonneg] at h ⊢
  obtain ⟨x, hx, e⟩ := h
  exact ⟨x, List.mem_reverse.2 hx, e⟩
theorem back_letAt {ls : List Letter} (hn : (ls.map (·.c)).Nodup) {c : Int} (h : 0 ≤ indexC ls c) : letAt ls.reverse c = letAt ls c := by
  obtain ⟨h1, h2⟩ := letAt_spec h
  obtain ⟨h3, h4⟩ := letAt_spec (back_index h)
  exact letter_uniq hn (List.mem_reverse.1 h3) h1 (h4.trans h2.symm)
theorem back_valid {b : Book} (V : Valid b) : Valid b.back := by
  refine ⟨V.n1, V.n4, by show 1 ≤ (b.al.map backA).length; rw [List.length_map]; exact V.al1, by show (b.al.map backA).length ≤ 3; rw [List.length_map]; exact V.al3, V.ss5, ?_, ?_, ?_⟩
  · intro a ha
    obtain ⟨a', ha', rfl⟩ := List.mem_map.1 ha
    have ok := V.alph a' ha'
    refine ⟨ok.name, by show 1 ≤ a'.ls.reverse.length; rw [List.length_reverse]; exact ok.l1, by show a'.ls.reverse.length ≤ 6; rw [List.length_reverse]; exact ok.l6, fun x hx => ok.let_ x (List.mem_reverse.1 hx), ?_⟩
    show (a'.ls.reverse.map (·.c)).Nodup
    rw [List.map_reverse]; exact (List.reverse_perm _).nodup_iff.2 ok.nd
  · show ((b.al.map backA).map (·.name)).Nodup
    rw [List.map_map]; exact V.names
  · intro s hs
    have sp := V.sp s hs
    obtain ⟨a, ha, hca⟩ := sp.ha
    refine ⟨sp.a0, ⟨backA a, ?_, fun c hc => back_index (hca c hc)⟩, sp.t1, sp.t5⟩
    show (b.al.map backA)[s.a.toNat]? = _
    rw [List.getElem?_map, ha]; rfl
theorem back_letters {b : Book} (V : Valid b) {s : Spelling} (hs : s ∈ b.ss) : spLetters b.back s = spLetters b s := by
  have sp := V.sp s hs
  obtain ⟨a, ha, hca⟩ := sp.ha
  have ok := V.alph a (List.mem_of_getElem? ha)
  have e : b.back.al[s.a.toNat]? = some (backA a) := by
    show (b.al.map backA)[s.a.toNat]? = _
    rw [List.getElem?_map, ha]; rfl
  simp only [spLetters, ha, e]
  exact List.map_congr_left fun c hc => back_letAt ok.nd (hca c hc)
theorem back_known {b : Book} (V : Valid b) : knownOf b.back = knownOf b := by
  have e : spsOf b.back = spsOf b := List.map_congr_left fun s hs => back_letters V hs
  unfold knownOf
  rw [e]; rfl
theorem back_wf {b : Book} (hw : b.wf) : b.back.wf := by
  refine ⟨hw.n0, hw.n1, fun a ha => ?_, hw.ss⟩
  obtain ⟨a', ha', rfl⟩ := List.mem_map.1 ha
  exact ⟨(hw.al a' ha').name, fun x hx => (hw.al a' ha').ls x (List.mem_reverse.1 hx)⟩
theorem enter_same {b c : Book} (V : Valid b) (W : Valid c) (m : Int) (l : List Int) : enterE c m l = enterE b m l := by
  unfold enterE
  rw [if_pos (valid_iff.2 V), if_pos (valid_iff.2 W)]
theorem back_first {b : Book} (V : Valid b) (i : Int) : firstR b.back i = firstR b i := by
  unfold firstR
  rw [back_known V]
  have : enterE b.back b.back.ss.length [i] = enterE b b.ss.length [i] := enter_same V (back_valid V) _ _
  rw [this]
theorem back_reads {b : Book} (V : Valid b) (i : Int) (l : List Int) : readsR b.back i l = readsR b i l := by
  unfold readsR readsE
  rw [back_known V]
  have : enterE b.back b.back.ss.length [i] = enterE b b.ss.length [i] := enter_same V (back_valid V) _ _
  rw [this]; rfl
theorem back_odd {b : Book} (V : Valid b) : oddR b.back = oddR b := by
  unfold oddR
  rw [if_pos (valid_iff.2 V), if_pos (valid_iff.2 (back_valid V)), back_known V]; rfl

/-- Sounds that have numbers the other way round. -/
def flipN (n s : Nat) : Nat → Nat
  | 0 => 0
  | k + 1 => flipN n s k + if s.testBit k = true then 2 ^ (n - 1 - k) else 0
theorem flip_ok4 : ∀ (n : Fin 5) (s : Fin 16), s.1 < 2 ^ n.1 → flipN n.1 s.1 n.1 < 2 ^ n.1 ∧ (flipN n.1 s.1 n.1 = 0 → s.1 = 0) ∧ (∀ k : Fin 4, k.1 < n.1 → (flipN n.1 s.1 n.1).testBit k.1 = s.1.testBit (n.1 - 1 - k.1)) ∧ ∀ k : Fin 5, flipN n.1 s.1 k.1 ≤ 16 := by decide +kernel
theorem flip_ok {n s : Nat} (hn : n ≤ 4) (h : s < 2 ^ n) : flipN n s n < 2 ^ n ∧ (flipN n s n = 0 → s = 0) ∧ (∀ k, k < n → (flipN n s n).testBit k = s.testBit (n - 1 - k)) ∧ ∀ k, k ≤ n → flipN n s k ≤ 16 := by
  have h16 : 2 ^ n ≤ 2 ^ 4 := Nat.pow_le_pow_right (by omega) hn
  obtain ⟨h1, h2, h3, h4⟩ := flip_ok4 ⟨n, by omega⟩ ⟨s, by omega⟩ h
  exact ⟨h1, h2, fun k hk => h3 ⟨k, by omega⟩ hk, fun k hk => h4 ⟨k, by omega⟩⟩
def highL (n : Nat) (l : Letter) : Letter := ⟨l.c, (flipN n l.s.toNat n : Nat), l.q⟩
def highA (n : Nat) (a : Alph) : Alph := ⟨a.name, a.ls.map (highL n)⟩
def Book.high (b : Book) : Book := ⟨b.n, b.al.map (highA b.n.toNat), b.ss⟩
theorem high_index (n : Nat) (ls : List Letter) (c : Int) : indexC (ls.map (highL n)) c = indexC ls c := by
  rw [indexC_map, indexC_map, List.map_map]; rfl
theorem high_letAt (n : Nat) {ls : List Letter} {c : Int} (h : 0 ≤ indexC ls c) : letAt (ls.map (highL n)) c = highL n (letAt ls c) := by
  have := (letAt_mem h).2
  have e : (ls.map (highL n))[(indexC (ls.map (highL n)) c).toNat]? = some (highL n (letAt ls c)) := by
    rw [high_index, List.getElem?_map, this]; rfl
  unfold letAt
  rw [e]
  unfold letAt at this
  rw [this]
  rfl
theorem letter_nat {n : Int} (_n1 : 1 ≤ n) {l : Letter} (h0 : 0 ≤ l.s) (h1 : l.s < 2 ^ n.toNat) : l.s.toNat < 2 ^ n.toNat := by
  rw [← pow_cast] at h1
  omega
theorem high_valid {b : Book} (V : Valid b) : Valid b.high := by
  have n1 := V.n1
  have n4 := V.n4
  refine ⟨V.n1, V.n4, by show 1 ≤ (b.al.map (highA b.n.toNat)).length; rw [List.length_map]; exact V.al1, by show (b.al.map (highA b.n.toNat)).length ≤ 3; rw [List.length_map]; exact V.al3, V.ss5, ?_, ?_, ?_⟩
  · intro a ha
    obtain ⟨a', ha', rfl⟩ := List.mem_map.1 ha
    have ok := V.alph a' ha'
    refine ⟨ok.name, by show 1 ≤ (a'.ls.map (highL b.n.toNat)).length; rw [List.length_map]; exact ok.l1, by show (a'.ls.map (highL b.n.toNat)).length ≤ 6; rw [List.length_map]; exact ok.l6, fun x hx => ?_, ?_⟩
    · obtain ⟨l, hl, rfl⟩ := List.mem_map.1 hx
      obtain ⟨c0, c1, s0, s1, hq⟩ := ok.let_ l hl
      obtain ⟨f1, f2, f3, _⟩ := flip_ok (n := b.n.toNat) (by omega) (letter_nat n1 s0 s1)
      refine ⟨c0, c1, Int.natCast_nonneg _, ?_, fun e => hq ?_⟩
      · show ((flipN b.n.toNat l.s.toNat b.n.toNat : Nat) : Int) < 2 ^ b.n.toNat
        rw [← pow_cast]; exact Int.ofNat_lt.2 f1
      · have : flipN b.n.toNat l.s.toNat b.n.toNat = 0 := by
          have e : ((flipN b.n.toNat l.s.toNat b.n.toNat : Nat) : Int) = 0 := e
          omega
        have := f2 this
        omega
    · show ((a'.ls.map (highL b.n.toNat)).map (·.c)).Nodup
      rw [List.map_map]; exact ok.nd
  · show ((b.al.map (highA b.n.toNat)).map (·.name)).Nodup
    rw [List.map_map]; exact V.names
  · intro s hs
    have sp := V.sp s hs
    obtain ⟨a, ha, hca⟩ := sp.ha
    refine ⟨sp.a0, ⟨highA b.n.toNat a, ?_, fun c hc => by show 0 ≤ indexC (a.ls.map (highL b.n.toNat)) c.toNat; rw [high_index]; exact hca c hc⟩, sp.t1, sp.t5⟩
    show (b.al.map (highA b.n.toNat))[s.a.toNat]? = _
    rw [List.getElem?_map, ha]; rfl
theorem high_wf {b : Book} (V : Valid b) (hw : b.wf) : b.high.wf := by
  have n1 := V.n1
  have n4 := V.n4
  refine ⟨hw.n0, hw.n1, fun a ha => ?_, hw.ss⟩
  obtain ⟨a', ha', rfl⟩ := List.mem_map.1 ha
  refine ⟨(hw.al a' ha').name, fun x hx => ?_⟩
  obtain ⟨l, hl, rfl⟩ := List.mem_map.1 hx
  obtain ⟨c0, c1, s0, s1, hq⟩ := (V.alph a' ha').let_ l hl
  have := (flip_ok (n := b.n.toNat) (by omega) (letter_nat n1 s0 s1)).2.2.2 b.n.toNat (Nat.le_refl _)
  refine ⟨by show 0 ≤ l.c; omega, by show l.c < 256; omega, ?_, ?_⟩
  · show _ ≤ ((flipN b.n.toNat l.s.toNat b.n.toNat : Nat) : Int); omega
  · show ((flipN b.n.toNat l.s.toNat b.n.toNat : Nat) : Int) ≤ _; omega

def flipR (n : Nat) (r : List Int) : List Int := r.map fun v => (n : Int) - 1 - v
theorem flipR_inj {n : Nat} {r s : List Int} (h : flipR n r = flipR n s) : r = s := by
  unfold flipR at h
  exact List.map_inj_right (fun x y h => by omega) |>.1 h
theorem flipR_flip (n : Nat) (r : List Int) : flipR n (flipR n r) = r := by
  unfold flipR
  rw [List.map_map]
  conv => rhs; rw [← List.map_id r]
  exact List.map_congr_left fun v _ => by simp only [Function.comp_apply, id_eq]; omega
theorem says_flip {n : Nat} (hn : n ≤ 4) : ∀ {xs : List Letter} {r : List Int}, (∀ l ∈ xs, 0 ≤ l.s ∧ l.s.toNat < 2 ^ n) → (Says n (xs.map (highL n)) r ↔ Says n xs (flipR n r))
  | [], r, _ => by simp [Says, flipR]
  | x :: xs, r, h => by
    have hx := h x (by simp)
    have ih := fun r => says_flip hn (xs := xs) (r := r) (fun l hl => h l (by simp [hl]))
    obtain ⟨_, _, f3, _⟩ := flip_ok hn hx.2
    have hg : ∀ k, k < n → givesB (highL n x).s k = givesB x.s ((n - 1 - k : Nat) : Int) := by
      intro k hk
      show givesB ((flipN n x.s.toNat n : Nat) : Int) k = _
      rw [gives_bit _ _ (Int.natCast_nonneg _), gives_bit _ _ hx.1, Int.toNat_natCast, f3 k hk]
    simp only [List.map_cons, Says]
    constructor
    · rintro (⟨h1, h2⟩ | ⟨k, h1, h2, r', rfl, h3⟩)
      · exact .inl ⟨h1, (ih r).1 h2⟩
      · refine .inr ⟨n - 1 - k, by omega, ?_, flipR n r', ?_, (ih r').1 h3⟩
        · rw [← hg k h1]; exact h2
        · unfold flipR
          rw [List.map_cons]
          congr 1
          omega
    · rintro (⟨h1, h2⟩ | ⟨k, h1, h2, r', e, h3⟩)
      · exact .inl ⟨h1, (ih r).2 h2⟩
      · have e2 : r = ((n - 1 - k : Nat) : Int) :: flipR n r' := by
          rw [← flipR_flip n r, e]
          unfold flipR
          rw [List.map_cons]
          congr 1
          omega
        refine .inr ⟨n - 1 - k, by omega, ?_, flipR n r', e2, (ih _).2 (by rw [flipR_flip]; exact h3)⟩
        rw [hg _ (by omega), show n - 1 - (n - 1 - k) = k by omega]; exact h2
theorem high_hear {b : Book} (V : Valid b) {k : Nat} {h : List Int} : h ∈ hearS b.high k ↔ flipR b.n.toNat h ∈ hearS b k := by
  have n1 := V.n1
  have n4 := V.n4
  by_cases hk : k < b.ss.length
  · obtain ⟨s, hs⟩ := ex_get hk
    have sp := V.sp s (List.mem_of_getElem? hs)
    obtain ⟨a, ha, hca⟩ := sp.ha
    have ok := V.alph a (List.mem_of_getElem? ha)
    rw [hearS_iff hs, hearS_iff (b := b.high) (s := s) hs]
    have e : b.high.al[s.a.toNat]? = some (highA b.n.toNat a) := by
      show (b.al.map (highA b.n.toNat))[s.a.toNat]? = _
      rw [List.getElem?_map, ha]; rfl
    have e2 : spLetters b.high s = (spLetters b s).map (highL b.n.toNat) := by
      simp only [spLetters, ha, e, List.map_map]
      exact List.map_congr_left fun c hc => high_letAt _ (hca c hc)
    rw [e2]
    refine says_flip (n := b.n.toNat) (by omega) ?_
    intro l hl
    simp only [spLetters, ha] at hl
    obtain ⟨c, hc, rfl⟩ := List.mem_map.1 hl
    obtain ⟨_, _, s0, s1, _⟩ := ok.let_ _ (letAt_mem (hca c hc)).1
    exact ⟨s0, letter_nat n1 s0 s1⟩
  · constructor
    · intro h; exact absurd (hearS_lt (b := b.high) h) hk
    · intro h; exact absurd (hearS_lt h) hk
section
variable {b : Book} (V : Valid b) (hw : b.wf)
include V hw
theorem high_count (i : Int) : countR b.high i = countR b i := by
  have W := high_valid V
  have hv := high_wf V hw
  by_cases h : 0 ≤ i ∧ i < b.ss.length
  · obtain ⟨n, rfl⟩ := Int.eq_ofNat_of_zero_le h.1
    have hn : n < b.ss.length := by omega
    obtain ⟨K, k1, k2, k3⟩ := count_of V hw hn
    obtain ⟨M, m1, m2, m3⟩ := count_of W hv (i := n) hn
    show countR b.high (n : Int) = countR b (n : Int)
    rw [k3, m3]
    have hp : M.Perm (K.map (flipR b.n.toNat)) := by
      refine (List.perm_ext_iff_of_nodup m1 ?_).2 ?_
      · rw [List.Nodup, List.pairwise_map]
        exact List.Pairwise.imp (fun hne e => hne (flipR_inj e)) k1
      · intro h
        rw [m2, high_hear V, List.mem_map]
        constructor
        · intro hh; exact ⟨_, (k2 _).2 hh, flipR_flip _ _⟩
        · rintro ⟨g, hg, rfl⟩; rw [flipR_flip]; exact (k2 g).1 hg
    rw [hp.length_eq, List.length_map]
  · have h1 : enterE b b.ss.length [i] = 4 := by
      unfold enterE
      rw [if_pos (valid_iff.2 V), if_pos (by simp [beyondB]; omega)]
    have h2 : enterE b.high b.high.ss.length [i] = 4 := (enter_same V W _ _).trans h1
    unfold countR
    rw [h1, h2]; rfl
theorem high_alike (i j : Int) : alikeR b.high i j = alikeR b i j := by
  have W := high_valid V
  have hv := high_wf V hw
  by_cases h : (0 ≤ i ∧ i < b.ss.length) ∧ 0 ≤ j ∧ j < b.ss.length
  · obtain ⟨⟨i0, i1⟩, j0, j1⟩ := h
    obtain ⟨n, rfl⟩ := Int.eq_ofNat_of_zero_le i0
    obtain ⟨m, rfl⟩ := Int.eq_ofNat_of_zero_le j0
    have hn : n < b.ss.length := by omega
    have hm : m < b.ss.length := by omega
    show alikeR b.high (n : Int) (m : Int) = alikeR b (n : Int) (m : Int)
    by_cases e : n = m
    · subst e
      rw [alike_same V hn, alike_same W (i := n) hn]
    · obtain ⟨p, e1, p0, p1, p2⟩ := alike_is V hw hn hm e
      obtain ⟨q, e2, q0, q1, q2⟩ := alike_is W hv (i := n) (j := m) hn hm e
      have a1 : p = 2 ↔ q = 2 := by
        rw [p1, q1]
        refine not_congr ⟨fun ⟨h, a, c⟩ => ⟨flipR b.n.toNat h, ?_, ?_⟩, fun ⟨h, a, c⟩ => ⟨_, (high_hear V).1 a, (high_hear V).1 c⟩⟩
        · rw [high_hear V, flipR_flip]; exact a
        · rw [high_hear V, flipR_flip]; exact c
      have a2 : p = 1 ↔ q = 1 := by
        rw [p2, q2]
        constructor
        · rintro ⟨g, a, c⟩
          refine ⟨flipR b.n.toNat g, fun h => ?_, fun h => ?_⟩
          · rw [high_hear V, a]
            exact ⟨fun e => by rw [← e, flipR_flip], fun e => by rw [e, flipR_flip]⟩
          · rw [high_hear V, c]
            exact ⟨fun e => by rw [← e, flipR_flip], fun e => by rw [e, flipR_flip]⟩
        · rintro ⟨g, a, c⟩
          refine ⟨flipR b.n.toNat g, fun h => ?_, fun h => ?_⟩
          · have := a (flipR b.n.toNat h)
            rw [high_hear V, flipR_flip] at this
            rw [this]
            exact ⟨fun e => by rw [← e, flipR_flip], fun e => by rw [e, flipR_flip]⟩
          · have := c (flipR b.n.toNat h)
            rw [high_hear V, flipR_flip] at this
            rw [this]
            exact ⟨fun e => by rw [← e, flipR_flip], fun e => by rw [e, flipR_flip]⟩
      have : p = q := by omega
      rw [e1, e2, this]
  · have h1 : enterE b b.ss.length [i, j] = 4 := by
      unfold enterE
      rw [if_pos (valid_iff.2 V), if_pos (by simp [beyondB]; omega)]
    have h2 : enterE b.high b.high.ss.length [i, j] = 4 := (enter_same V W _ _).trans h1
    unfold alikeR alikeE
    rw [h1, h2]; rfl
theorem high_odd : oddR b.high = oddR b := by
  have W := high_valid V
  have hv := high_wf V hw
  obtain ⟨c, h1, h2, h3, _, ⟨h, hh⟩, h6⟩ := odd_of V hw
  obtain ⟨d, g1, g2, g3, _, ⟨g, hg⟩, g6⟩ := odd_of W hv
  have hss : b.high.ss.length = b.ss.length := rfl
  have a1 := h6 d g2 (fun v hv => g3 v hv) ⟨_, fun k k1 k2 => (high_hear V).1 (hg k k1 k2)⟩
  have a2 := g6 c h2 (fun v hv => h3 v hv) ⟨flipR b.n.toNat h, fun k k1 k2 => by rw [high_hear V, flipR_flip]; exact hh k k1 k2⟩
  rw [h1, g1]
  have : natI c = natI d := by
    apply Classical.byContradiction
    intro hne
    have := fewerL_total hne a2
    rw [this] at a1; cases a1
  rw [this]
end
end Go.Px

