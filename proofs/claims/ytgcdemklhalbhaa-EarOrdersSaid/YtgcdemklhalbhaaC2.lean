/- Part 2 of the proofs of the outright statements of this seat (functions lowered, plain laws, contracts). No conditions. -/
import Derived.Test.YtgcdemklhalbhaaC1
namespace Go.Px
open Go.Proofs

/-- Letters can give sounds. -/
def Says (n : Nat) : List Letter → List Int → Prop
  | [], r => r = []
  | x :: xs, r => (x.q = true ∧ Says n xs r) ∨ ∃ k : Nat, k < n ∧ givesB x.s k = true ∧ ∃ r', r = (k : Int) :: r' ∧ Says n xs r'

theorem hearL_iff {n : Nat} : ∀ (xs : List Letter) (h g : List Int), g ∈ hearL n xs h ↔ ∃ r, g = h ++ r ∧ Says n xs r
  | [], h, g => by simp [hearL, Says]
  | x :: xs, h, g => by
    simp only [hearL, List.mem_append, List.mem_flatMap, List.mem_filter, List.mem_range]
    constructor
    · rintro (hg | ⟨k, ⟨h1, h2⟩, hg⟩)
      · split at hg
        · rename_i hq
          obtain ⟨r, e, hs⟩ := (hearL_iff xs h g).1 hg
          exact ⟨r, e, .inl ⟨hq, hs⟩⟩
        · cases hg
      · obtain ⟨r, e, hs⟩ := (hearL_iff xs _ g).1 hg
        exact ⟨(k : Int) :: r, by rw [e]; simp, .inr ⟨k, h1, h2, r, rfl, hs⟩⟩
    · rintro ⟨r, rfl, (⟨hq, hs⟩ | ⟨k, h1, h2, r', rfl, hs⟩)⟩
      · left; rw [if_pos hq]; exact (hearL_iff xs h _).2 ⟨r, rfl, hs⟩
      · right; exact ⟨k, ⟨h1, h2⟩, (hearL_iff xs _ _).2 ⟨r', by simp, hs⟩⟩
theorem hearS_iff {b : Book} {k : Nat} {s : Spelling} (hs : b.ss[k]? = some s) (g : List Int) : g ∈ hearS b k ↔ Says b.n.toNat (spLetters b s) g := by
  unfold hearS
  rw [hs]
  simp only
  rw [hearL_iff]
  simp
theorem hearS_lt {b : Book} {k : Nat} {g : List Int} (h : g ∈ hearS b k) : k < b.ss.length := by
  unfold hearS at h
  cases hs : b.ss[k]? with
  | none => rw [hs] at h; cases h
  | some s => exact (List.getElem?_eq_some_iff.1 hs).1

theorem fewer_code {h g : List Int} (hh : H4 h) (hg : H4 g) : fewerL h g = true ↔ codeN h < codeN g := by
  unfold fewerL
  by_cases hl : h.length = g.length
  · rw [if_pos hl]; exact (code_less hh hg hl).symm
  · rw [if_neg hl, decide_eq_true_iff]
    rcases Nat.lt_or_gt_of_ne hl with h1 | h1
    · exact ⟨fun _ => code_len hh h1, fun _ => h1⟩
    · have := code_len hg h1
      exact ⟨fun _ => by omega, fun _ => by omega⟩
theorem fewer_before {h g : List Int} (hh : H4 h ∧ h.length ≤ 5) (hg : H4 g ∧ g.length ≤ 5) : fewerL h g = hbefore h g := by
  rw [Bool.eq_iff_iff, fewer_code hh.1 hg.1, before_code hh.1 hg.1 hh.2 hg.2]

theorem beyond_all {m : Int} {l : List Int} (h : ∀ i ∈ l, 0 ≤ i ∧ i < m) : beyondB 0 (m - 1) l = false := by
  unfold beyondB
  rw [List.any_eq_false]
  intro x hx
  have := h x hx
  simp; omega
theorem enter_zero {b : Book} (V : Valid b) {m : Int} {l : List Int} (h : ∀ i ∈ l, 0 ≤ i ∧ i < m) : enterE b m l = 0 := by
  unfold enterE
  rw [if_pos (valid_iff.2 V), beyond_all h]
  rfl
theorem enter_bad {b : Book} (h : ¬ Valid b) (m : Int) (l : List Int) : enterE b m l = (check b).2.2 ∧ (check b).2.2 ≠ 0 := by
  have hc : (check b).2.2 ≠ 0 := fun e => h (valid_iff.1 e)
  unfold enterE
  rw [if_neg hc]
  exact ⟨rfl, hc⟩
theorem hear_zero {n : Int} {l : List Int} (h5 : l.length ≤ 5) (h : ∀ v ∈ l, 0 ≤ v ∧ v < n) : hearE n l = 0 := by
  unfold hearE
  rw [if_neg (by omega), beyond_all h]
  rfl

section
variable {b : Book} (V : Valid b) (hw : b.wf)
include V hw
theorem known_ok : KOK (knownOf b) := (knownOf_ok hw (valid_iff.2 V)).1
theorem count_of {i : Nat} (hi : i < b.ss.length) : ∃ K : List (List Int), K.Nodup ∧ (∀ h, h ∈ K ↔ h ∈ hearS b i) ∧ countR b i = (((K.length : Nat) : Int), 0) := by
  refine ⟨keysIn (knownOf b) (setN [(i : Int)] 0 : Nat), keysIn_nd _ _, fun h => ?_, ?_⟩
  · rw [keysIn_iff (by simp)]; simp
  · unfold countR
    rw [if_pos (enter_zero V (by simp; omega)), ← (firstK_spec (known_ok V hw) _).1, setN_one, pow_cast]
theorem first_of {i : Nat} (hi : i < b.ss.length) : ∃ g, g ∈ hearS b i ∧ (∀ h ∈ hearS b i, fewerL h g = false) ∧ firstR b i = (g, 0) := by
  have hK := fun h => keysIn_iff (b := b) (l := [(i : Int)]) (by simp) h
  obtain ⟨h1, h2, h3⟩ := firstK_spec (known_ok V hw) (setN [(i : Int)] 0 : Nat)
  obtain ⟨h4, h5⟩ := h3 (keysIn_ne V (by simpa using hi))
  rw [hK] at h4
  have h4 : (firstK (knownOf b) (setN [(i : Int)] 0 : Nat)).1 ∈ hearS b i := by simpa using h4
  refine ⟨_, h4, fun h hh => ?_, ?_⟩
  · rw [fewer_before (hearS_ok V hh) (hearS_ok V h4)]
    exact h5 h ((hK h).2 (by simpa using hh))
  · unfold firstR
    rw [if_pos (enter_zero V (by simp; omega)), setN_one, pow_cast]
theorem reads_of {i : Nat} (hi : i < b.ss.length) {l : List Int} (h5 : l.length ≤ 5) (hl : ∀ v ∈ l, 0 ≤ v ∧ v < b.n) : readsR b i l = (decide (l ∈ hearS b i), 0) := by
  have _h := hw
  have e : readsE b i l = 0 := by
    unfold readsE
    rw [if_pos (enter_zero V (by simp; omega)), hear_zero h5 hl]
  have n4 := V.n4
  unfold readsR
  rw [e]
  simp only [decide_true, Bool.true_and, Prod.mk.injEq, and_true]
  rw [← reads_iff V (by omega) (l := l) (fun v hv => ⟨(hl v hv).1, by have := (hl v hv).2; omega⟩), Bool.eq_iff_iff, strS_iff V, decide_eq_true_iff]
  rw [Int.toNat_natCast]
  constructor
  · rintro ⟨h, hh, e⟩
    have := codeN_inj (hearS_ok V hh).1 (fun v hv => ⟨(hl v hv).1, by have := (hl v hv).2; omega⟩) e
    rw [← this]; exact hh
  · intro h; exact ⟨l, h, rfl⟩
theorem hear_bound {i : Nat} {h : List Int} (hh : h ∈ hearS b i) : h.length ≤ 5 ∧ ∀ v ∈ h, 0 ≤ v ∧ v < b.n := by
  have _h := hw
  have hi := hearS_lt hh
  obtain ⟨s, hs⟩ := ex_get hi
  refine ⟨(hearS_ok V hh).2, ?_⟩
  rw [hearS_iff hs] at hh
  have n1 := V.n1
  generalize spLetters b s = xs at hh
  induction xs generalizing h with
  | nil => simp only [Says] at hh; subst hh; simp
  | cons x xs ih =>
    simp only [Says] at hh
    rcases hh with ⟨_, hh⟩ | ⟨k, h1, _, r, rfl, hr⟩
    · exact ih hh
    · intro v hv
      rcases List.mem_cons.1 hv with rfl | hv
      · omega
      · exact ih hr v hv
theorem alike_of {i j : Nat} (hi : i < b.ss.length) (hj : j < b.ss.length) (hij : i ≠ j) : ∃ m : Int, alikeR b i j = (m, 0) ∧ (m = 0 ∨ m = 1 ∨ m = 2) ∧ (m = 2 ↔ ¬ ∃ h, h ∈ hearS b i ∧ h ∈ hearS b j) ∧
    (m = 1 ↔ ∃ g, (∀ h, h ∈ hearS b i ↔ h = g) ∧ (∀ h, h ∈ hearS b j ↔ h = g)) := by
  have hk := known_ok V hw
  have e : alikeE b i j = 0 := by
    unfold alikeE
    rw [if_pos (enter_zero V (by simp; omega)), if_neg (by omega)]
  refine ⟨alikeM (knownOf b) i j, by unfold alikeR; rw [e]; rfl, ?_⟩
  have hA := fun h => keysIn_iff (b := b) (l := [(i : Int)]) (by simp) h
  have hB := fun h => keysIn_iff (b := b) (l := [(j : Int)]) (by simp) h
  have hC := fun h => keysIn_iff (b := b) (l := [(i : Int), (j : Int)]) (by simp) h
  have na := keysIn_ne V (i := (i : Int)) (by simpa using hi)
  have nb := keysIn_ne V (i := (j : Int)) (by simpa using hj)
  obtain ⟨a1, a2, a3⟩ := firstK_spec hk (setN [(i : Int)] 0 : Nat)
  obtain ⟨b1, b2, b3⟩ := firstK_spec hk (setN [(j : Int)] 0 : Nat)
  obtain ⟨c1, c2, c3⟩ := firstK_spec hk (setN [(i : Int), (j : Int)] 0 : Nat)
  have dA := keysIn_nd b (setN [(i : Int)] 0 : Nat)
  have dB := keysIn_nd b (setN [(j : Int)] 0 : Nat)
  simp only [List.mem_cons, List.not_mem_nil, or_false, forall_eq_or_imp, forall_eq, Int.toNat_natCast] at hA hB hC
  have e2 : ((2 ^ (i : Int).toNat ||| 2 ^ (j : Int).toNat : Nat) : Int) = ((setN [(i : Int), (j : Int)] 0 : Nat) : Int) := by simp [setN]
  have e3 : (2 : Int) ^ (i : Int).toNat = ((setN [(i : Int)] 0 : Nat) : Int) := by rw [setN_one, pow_cast]
  have e4 : (2 : Int) ^ (j : Int).toNat = ((setN [(j : Int)] 0 : Nat) : Int) := by rw [setN_one, pow_cast]
  unfold alikeM
  rw [e2, e3, e4]
  generalize keysIn (knownOf b) (setN [(i : Int)] 0 : Nat) = A at *
  generalize keysIn (knownOf b) (setN [(j : Int)] 0 : Nat) = B' at *
  generalize keysIn (knownOf b) (setN [(i : Int), (j : Int)] 0 : Nat) = C at *
  have hone : (A.length = 1 ∧ B'.length = 1 ∧ (firstK (knownOf b) (setN [(i : Int)] 0 : Nat)).1 = (firstK (knownOf b) (setN [(j : Int)] 0 : Nat)).1) ↔ ∃ g, (∀ h, h ∈ hearS b i ↔ h = g) ∧ (∀ h, h ∈ hearS b j ↔ h = g) := by
    constructor
    · rintro ⟨m1, m2, m3⟩
      obtain ⟨x, rfl⟩ := List.length_eq_one_iff.1 m1
      obtain ⟨y, rfl⟩ := List.length_eq_one_iff.1 m2
      have f1 := (a3 na).1
      have f2 := (b3 nb).1
      rw [m3] at f1
      simp only [List.mem_singleton] at f1 f2
      have hxy : x = y := f1.symm.trans f2
      subst hxy
      exact ⟨x, fun h => by rw [← hA h]; simp, fun h => by rw [← hB h]; simp⟩
    · rintro ⟨g, h1, h2⟩
      have one : ∀ {L : List (List Int)}, L.Nodup → (∀ h, h ∈ L ↔ h = g) → L = [g] := by
        intro L hd hm
        have : L.Perm [g] := (List.perm_ext_iff_of_nodup hd (by simp)).2 (fun h => by rw [hm]; simp)
        simpa using this
      have eA := one dA (fun h => (hA h).trans (h1 h))
      have eB := one dB (fun h => (hB h).trans (h2 h))
      subst eA eB
      have f1 := (a3 na).1
      have f2 := (b3 nb).1
      simp only [List.mem_singleton] at f1 f2
      exact ⟨rfl, rfl, f1.trans f2.symm⟩
  have hno : C.length = 0 ↔ ¬ ∃ h, h ∈ hearS b i ∧ h ∈ hearS b j := by
    rw [List.length_eq_zero_iff]
    constructor
    · rintro rfl ⟨h, h1, h2⟩
      exact absurd ((hC h).2 ⟨h1, h2⟩) (by simp)
    · intro hn
      rw [List.eq_nil_iff_forall_not_mem]
      exact fun h hh => hn ⟨h, (hC h).1 hh⟩
  rw [a1, b1, c1]
  by_cases hm : A.length = 1 ∧ B'.length = 1 ∧ (firstK (knownOf b) (setN [(i : Int)] 0 : Nat)).1 = (firstK (knownOf b) (setN [(j : Int)] 0 : Nat)).1
  · rw [if_pos hm]
    have hm' := hone.1 hm
    refine ⟨by simp, ⟨fun h => (by cases h), fun h => ?_⟩, fun _ => hm', fun _ => rfl⟩
    obtain ⟨g, h1, h2⟩ := hm'
    exact absurd ⟨g, (h1 g).2 rfl, (h2 g).2 rfl⟩ h
  · rw [if_neg hm]
    by_cases hx : C.length = 0
    · rw [if_pos hx]
      exact ⟨by simp, ⟨fun _ => hno.1 hx, fun _ => rfl⟩, fun h => (by cases h), fun h => absurd (hone.2 h) hm⟩
    · rw [if_neg hx]
      exact ⟨by simp, ⟨fun h => (by cases h), fun h => absurd (hno.2 h) hx⟩, fun h => (by cases h), fun h => absurd (hone.2 h) hm⟩
theorem common_of {l : List Int} (hl : l ≠ []) (ha : ascB l (-1) = true) (hr : ∀ j ∈ l, j < b.ss.length) :
    (∃ g, (∀ j ∈ l, g ∈ hearS b j.toNat) ∧ (∀ h, (∀ j ∈ l, h ∈ hearS b j.toNat) → fewerL h g = false) ∧ commonR b l = (g, 0)) ∨ ((¬ ∃ h, ∀ j ∈ l, h ∈ hearS b j.toNat) ∧ commonR b l = ([], 9)) := by
  have hk := known_ok V hw
  have h0 : ∀ j ∈ l, 0 ≤ j ∧ j < b.ss.length := by
    have key : ∀ (l : List Int) (k : Int), ascB l k = true → ∀ j ∈ l, k < j := by
      intro l
      induction l with
      | nil => intro k _ j hj; cases hj
      | cons x l ih =>
        intro k h j hj
        simp only [ascB, Bool.and_eq_true, decide_eq_true_eq] at h
        rcases List.mem_cons.1 hj with rfl | hj
        · exact h.1
        · have := ih x h.2 j hj
          omega
    intro j hj
    have := key l (-1) ha j hj
    exact ⟨by omega, hr j hj⟩
  have hK := fun h => keysIn_iff (b := b) hl h
  obtain ⟨c1, c2, c3⟩ := firstK_spec hk (setN l 0 : Nat)
  unfold commonR
  rw [if_pos (enter_zero V h0), if_pos ⟨ha, setN_ne.2 hl⟩, c1]
  by_cases hx : (keysIn (knownOf b) (setN l 0 : Nat)).length = 0
  · right
    rw [if_pos hx]
    refine ⟨?_, rfl⟩
    rintro ⟨h, hh⟩
    have := (hK h).2 hh
    rw [List.length_eq_zero_iff.1 hx] at this
    cases this
  · left
    rw [if_neg hx]
    obtain ⟨h4, h5⟩ := c3 (fun e => hx (by rw [e]; rfl))
    have h6 := (hK _).1 h4
    refine ⟨_, h6, fun h hh => ?_, rfl⟩
    obtain ⟨j0, hj0⟩ := List.exists_mem_of_ne_nil l hl
    rw [fewer_before (hearS_ok V (hh j0 hj0)) (hearS_ok V (h6 j0 hj0))]
    exact h5 h ((hK h).2 hh)
theorem odd_of : ∃ c : List Nat, oddR b = (natI c, 0) ∧ Inc c ∧ (∀ v ∈ c, v < b.ss.length) ∧ (1 ≤ b.ss.length → c.length < b.ss.length) ∧
    (∃ h, ∀ k, k < b.ss.length → k ∉ c → h ∈ hearS b k) ∧ ∀ d : List Nat, Inc d → (∀ v ∈ d, v < b.ss.length) → (∃ h, ∀ k, k < b.ss.length → k ∉ d → h ∈ hearS b k) → fewerL (natI d) (natI c) = false := by
  have hk := known_ok V hw
  unfold oddR
  rw [if_pos (valid_iff.2 V)]
  by_cases hn : 1 ≤ b.ss.length
  · obtain ⟨u, h, hu, h1, h2, h3⟩ := odd_spec V hk hn
    refine ⟨cN b.ss.length u, by rw [h1], cN_inc _ _, fun v hv => (cN_mem.1 hv).1, fun _ => h2, ⟨h, fun k hk1 hk2 => ?_⟩, ?_⟩
    · rw [← known_key hu]
      cases hb : u.testBit k with
      | true => rfl
      | false => exact absurd (cN_mem.2 ⟨hk1, hb⟩) hk2
    · intro d hd hdl ⟨g, hg⟩
      by_cases hfull : d.length < b.ss.length
      · have hne := others_ne (n := b.ss.length) (c := d) hfull
        obtain ⟨j, hj⟩ := List.exists_mem_of_ne_nil _ hne
        obtain ⟨k, rfl, k1, k2⟩ := others_mem.1 hj
        obtain ⟨v, hv⟩ := known_has (hg k k1 k2)
        have hsub : ∀ x ∈ cN b.ss.length v, x ∈ d := by
          intro x hx
          obtain ⟨x1, x2⟩ := cN_mem.1 hx
          apply Decidable.byContradiction
          intro hn
          rw [(known_key hv x).2 (hg x x1 hn)] at x2; cases x2
        have hvl : (cN b.ss.length v).length ≤ d.length := List.Nodup.length_le_of_subset (inc_nodup (cN_inc _ _)) hsub
        have h3v := h3 g v hv
        by_cases e : (cN b.ss.length v).length = d.length
        · have := inc_eq (cN_inc _ _) hd hsub (by omega)
          rw [this] at h3v; exact h3v
        · cases hq : fewerL (natI d) (natI (cN b.ss.length u)) with
          | false => rfl
          | true =>
            have : fewerL (natI (cN b.ss.length v)) (natI d) = true := by
              unfold fewerL
              rw [natI_len, natI_len, if_neg e, decide_eq_true_iff]; omega
            rw [fewerL_trans this hq] at h3v; cases h3v
      · unfold fewerL
        rw [natI_len, natI_len, if_neg (by omega), decide_eq_false_iff_not]; omega
  · have e0 : b.ss = [] := List.length_eq_zero_iff.1 (by omega)
    refine ⟨[], ?_, by simp [Inc], by simp, fun h => absurd h hn, ⟨[], fun k hk1 => by omega⟩, ?_⟩
    · have : knownOf b = [] := by unfold knownOf spsOf; rw [e0]; rfl
      rw [this, e0]; rfl
    · intro d _ _ _
      unfold fewerL
      cases d with
      | nil => rfl
      | cons x d => simp [natI]
end
end Go.Px

