/- Part 9 of the proof of the statements of this seat (a logic of pure contracts, the functions lowered, their contracts, the statements). No conditions. -/
import Derived.Test.YtgcdemklhalbhaaA8
namespace Go.Px
open Go.Proofs

/-- Sounds from 0 to 3. -/
def H4 (h : List Int) : Prop := ∀ v ∈ h, 0 ≤ v ∧ v < 4
def codeN (l : List Int) : Nat := l.foldl (fun n v => n * 5 + v.toNat + 1) 0
theorem codeN_from : ∀ (l : List Int) (n : Nat), l.foldl (fun n v => n * 5 + v.toNat + 1) n = n * 5 ^ l.length + codeN l
  | [], n => by simp [codeN]
  | v :: l, n => by
    unfold codeN
    simp only [List.foldl_cons, List.length_cons]
    rw [codeN_from l (n * 5 + v.toNat + 1), codeN_from l (0 * 5 + v.toNat + 1), Nat.pow_succ]
    generalize 5 ^ l.length = q
    generalize codeN l = r
    rw [Nat.zero_mul, Nat.zero_add, Nat.add_mul, Nat.add_mul, Nat.add_mul, Nat.mul_assoc, Nat.mul_comm 5 q]
    omega
theorem codeN_cons (v : Int) (l : List Int) : codeN (v :: l) = (v.toNat + 1) * 5 ^ l.length + codeN l := by
  have := codeN_from l (0 * 5 + v.toNat + 1)
  rw [Nat.zero_mul, Nat.zero_add] at this
  unfold codeN at this ⊢
  simpa using this
theorem codeN_snoc (l : List Int) (v : Int) : codeN (l ++ [v]) = codeN l * 5 + v.toNat + 1 := by
  simp [codeN, List.foldl_append]
theorem codeI_N {l : List Int} (h : ∀ v ∈ l, 0 ≤ v) : codeI l = (codeN l : Int) := by
  have key : ∀ (l : List Int) (n : Nat), (∀ v ∈ l, 0 ≤ v) → l.foldl (fun (n : Int) v => n * 5 + v + 1) (n : Int) = ((l.foldl (fun n v => n * 5 + v.toNat + 1) n : Nat) : Int) := by
    intro l
    induction l with
    | nil => intro n _; rfl
    | cons v l ih =>
      intro n h
      simp only [List.foldl_cons]
      have hv := h v (by simp)
      rw [← ih _ (fun x hx => h x (by simp [hx]))]
      congr 1
      omega
  exact key l 0 h
theorem codeN_lt : ∀ {l : List Int}, H4 l → codeN l < 5 ^ l.length
  | [], _ => by simp [codeN]
  | v :: l, h => by
    have ih := codeN_lt (l := l) (fun x hx => h x (by simp [hx]))
    have hv := h v (by simp)
    rw [codeN_cons, List.length_cons, Nat.pow_succ]
    have : (v.toNat + 1) * 5 ^ l.length ≤ 4 * 5 ^ l.length := Nat.mul_le_mul_right _ (by omega)
    omega
theorem codeN_ge (v : Int) (l : List Int) : 5 ^ l.length ≤ codeN (v :: l) := by
  rw [codeN_cons]
  have : 1 * 5 ^ l.length ≤ (v.toNat + 1) * 5 ^ l.length := Nat.mul_le_mul_right _ (by omega)
  omega
theorem code_len {h g : List Int} (hh : H4 h) (hl : h.length < g.length) : codeN h < codeN g := by
  cases g with
  | nil => simp at hl
  | cons v g =>
    have h1 := codeN_lt hh
    have h2 := codeN_ge v g
    have h3 : 5 ^ h.length ≤ 5 ^ g.length := Nat.pow_le_pow_right (by omega) (by simp at hl; omega)
    omega
theorem code_less : ∀ {h g : List Int}, H4 h → H4 g → h.length = g.length → (codeN h < codeN g ↔ lessL h g = true)
  | [], [], _, _, _ => by simp [codeN, lessL]
  | v :: h, u :: g, hh, hg, hl => by
    have hl' : h.length = g.length := by simpa using hl
    have ih := code_less (h := h) (g := g) (fun x hx => hh x (by simp [hx])) (fun x hx => hg x (by simp [hx])) hl'
    have hv := hh v (by simp)
    have hu := hg u (by simp)
    have b1 := codeN_lt (l := h) (fun x hx => hh x (by simp [hx]))
    have b2 := codeN_lt (l := g) (fun x hx => hg x (by simp [hx]))
    rw [codeN_cons, codeN_cons, lessL, hl']
    rw [hl'] at b1
    generalize 5 ^ g.length = q at b1 b2 ⊢
    by_cases e : v = u
    · rw [if_pos e, ← ih, e]; omega
    · rw [if_neg e, decide_eq_true_iff]
      constructor
      · intro h1
        apply Decidable.byContradiction
        intro h2
        have : (u.toNat + 1 + 1) * q ≤ (v.toNat + 1) * q := Nat.mul_le_mul_right _ (by omega)
        rw [Nat.add_mul, Nat.one_mul] at this
        omega
      · intro h1
        have : (v.toNat + 1 + 1) * q ≤ (u.toNat + 1) * q := Nat.mul_le_mul_right _ (by omega)
        rw [Nat.add_mul, Nat.one_mul] at this
        omega
theorem pad_less {h g : List Int} (h5 : h.length ≤ 5) (hl : h.length = g.length) : lessL (pad h) (pad g) = lessL h g := by
  match h, g, hl, h5 with
  | [], [], _, _ => rfl
  | [_], [_], _, _ => simp [pad, lessL]
  | [_, _], [_, _], _, _ => simp [pad, lessL]
  | [_, _, _], [_, _, _], _, _ => simp [pad, lessL]
  | [_, _, _, _], [_, _, _, _], _, _ => simp [pad, lessL]
  | [_, _, _, _, _], [_, _, _, _, _], _, _ => rfl
theorem H4.ok {h : List Int} (hh : H4 h) (h5 : h.length ≤ 5) : HOK h := ⟨h5, fun v hv => by have := hh v hv; omega⟩
theorem before_code {h g : List Int} (hh : H4 h) (hg : H4 g) (h5 : h.length ≤ 5) (g5 : g.length ≤ 5) : hbefore h g = true ↔ codeN h < codeN g := by
  rw [hbefore_iff (hh.ok h5) (hg.ok g5)]
  rcases Nat.lt_trichotomy h.length g.length with hl | hl | hl
  · have := code_len (g := g) hh hl
    simp [hl, this]
  · rw [code_less hh hg hl, pad_less h5 hl]; simp [hl]
  · have := code_len (g := h) hg hl
    constructor
    · rintro (h1 | ⟨h1, _⟩) <;> omega
    · intro h1; omega
theorem heardF_code : ∀ (f : Nat) (l : List Int), H4 l → l.length ≤ f → heardF f (codeN l) = l := by
  intro f
  induction f with
  | zero =>
    intro l _ hl
    have : l = [] := List.length_eq_zero_iff.1 (by omega)
    subst this; rfl
  | succ f ih =>
    intro l hh hl
    rcases List.eq_nil_or_concat l with rfl | ⟨m, v, rfl⟩
    · rfl
    · rw [List.concat_eq_append] at *
      have hv := hh v (by simp)
      have hm := ih m (fun x hx => hh x (by simp [hx])) (by simp at hl; omega)
      rw [codeN_snoc]
      simp only [heardF]
      rw [if_neg (by omega)]
      have e1 : (codeN m * 5 + v.toNat + 1) / 5 = codeN m := by omega
      have e2 : (codeN m * 5 + v.toNat + 1) % 5 = v.toNat + 1 := by omega
      rw [e1, e2, hm]
      congr 2
      omega
theorem codeN_inj {h g : List Int} (hh : H4 h) (hg : H4 g) (e : codeN h = codeN g) : h = g := by
  have h1 := heardF_code (h.length + g.length) h hh (by omega)
  have h2 := heardF_code (h.length + g.length) g hg (by omega)
  exact h1.symm.trans (by rw [e]; exact h2)

/-- What the letters of a spelling can be, letter by letter. -/
theorem hearL_snoc {n : Nat} : ∀ (xs : List Letter) (x : Letter) (h g : List Int), g ∈ hearL n (xs ++ [x]) h ↔ ∃ f ∈ hearL n xs h, (x.q = true ∧ g = f) ∨ ∃ k : Nat, k < n ∧ givesB x.s k = true ∧ g = f ++ [(k : Int)]
  | [], x, h, g => by
    simp only [List.nil_append, hearL, List.mem_append, List.mem_flatMap, List.mem_filter, List.mem_range, List.mem_singleton, exists_eq_left]
    constructor
    · rintro (h1 | ⟨k, ⟨h1, h2⟩, h3⟩)
      · split at h1
        · rename_i hq; exact .inl ⟨hq, by simpa using h1⟩
        · cases h1
      · exact .inr ⟨k, h1, h2, h3⟩
    · rintro (⟨hq, rfl⟩ | ⟨k, h1, h2, h3⟩)
      · left; rw [if_pos hq]; simp
      · exact .inr ⟨k, ⟨h1, h2⟩, h3⟩
  | y :: xs, x, h, g => by
    have ih := fun h => hearL_snoc (n := n) xs x h g
    simp only [List.cons_append, hearL, List.mem_append, List.mem_flatMap, List.mem_filter, List.mem_range]
    constructor
    · rintro (h1 | ⟨k, h1, h2⟩)
      · split at h1
        · rename_i hq
          obtain ⟨f, hf, h2⟩ := (ih h).1 h1
          exact ⟨f, .inl (by rw [if_pos hq]; exact hf), h2⟩
        · cases h1
      · obtain ⟨f, hf, h3⟩ := (ih _).1 h2
        exact ⟨f, .inr ⟨k, h1, hf⟩, h3⟩
    · rintro ⟨f, h1 | ⟨k, h1, hf⟩, h3⟩
      · split at h1
        · rename_i hq
          left; rw [if_pos hq]; exact (ih h).2 ⟨f, h1, h3⟩
        · cases h1
      · exact .inr ⟨k, h1, (ih _).2 ⟨f, hf, h3⟩⟩
theorem hearL_H4 {n : Nat} (hn : n ≤ 4) : ∀ (xs : List Letter) (h g : List Int), g ∈ hearL n xs h → H4 h → H4 g
  | [], h, g, hg, hh => by simp [hearL] at hg; subst hg; exact hh
  | x :: xs, h, g, hg, hh => by
    simp only [hearL, List.mem_append, List.mem_flatMap] at hg
    rcases hg with hg | ⟨k, hk, hg⟩
    · split at hg
      · exact hearL_H4 hn xs h g hg hh
      · cases hg
    · refine hearL_H4 hn xs _ g hg ?_
      intro v hv
      rcases List.mem_append.1 hv with hv | hv
      · exact hh v hv
      · simp only [List.mem_singleton] at hv
        have := List.mem_range.1 (List.mem_filter.1 hk).1
        omega
theorem H4_nil : H4 [] := by intro v hv; cases hv

theorem strP_iff {n : Nat} (hn : n ≤ 4) (xs : List Letter) (c : Nat) : strP n xs c = true ↔ ∃ h ∈ hearL n xs [], codeN h = c := by
  have key : ∀ (ys : List Letter) (c : Nat), strP n ys.reverse c = true ↔ ∃ h ∈ hearL n ys.reverse [], codeN h = c := by
    intro ys
    induction ys with
    | nil =>
      intro c
      simp only [List.reverse_nil, strP, hearL, List.foldl_nil, List.mem_singleton, exists_eq_left, beq_iff_eq, codeN]
      exact eq_comm
    | cons y ys ih =>
      intro c
      rw [List.reverse_cons, strP_snoc]
      simp only [stepP, Bool.or_eq_true, Bool.and_eq_true, decide_eq_true_eq, ih]
      constructor
      · rintro (⟨⟨h, hh, hc⟩, hq⟩ | ⟨⟨⟨h1, h2⟩, h3⟩, ⟨h, hh, hc⟩⟩)
        · exact ⟨h, (hearL_snoc _ _ _ _).2 ⟨h, hh, .inl ⟨hq, rfl⟩⟩, hc⟩
        · refine ⟨h ++ [(((c - 1) % 5 : Nat) : Int)], (hearL_snoc _ _ _ _).2 ⟨h, hh, .inr ⟨(c - 1) % 5, h2, h3, rfl⟩⟩, ?_⟩
          rw [codeN_snoc, hc]
          simp only [Int.toNat_natCast]
          omega
      · rintro ⟨g, hg, hc⟩
        obtain ⟨f, hf, h1⟩ := (hearL_snoc _ _ _ _).1 hg
        rcases h1 with ⟨hq, rfl⟩ | ⟨k, hk, hgv, rfl⟩
        · exact .inl ⟨⟨_, hf, hc⟩, hq⟩
        · rw [codeN_snoc, Int.toNat_natCast] at hc
          have e1 : (c - 1) / 5 = codeN f := by omega
          have e2 : (c - 1) % 5 = k := by omega
          refine .inr ⟨⟨⟨by omega, by rw [e2]; exact hk⟩, by rw [e2]; exact hgv⟩, ⟨f, hf, e1.symm⟩⟩
  have := key xs.reverse c
  rwa [List.reverse_reverse] at this
end Go.Px

