/- Part 15 of the proof of the statements of this seat (a logic of pure contracts, the functions lowered, their contracts, the statements). No conditions. -/
import Derived.Test.YtgcdemklhalbhaaA14
namespace Go.Px
open Go.Proofs

/-- One letter from a place on. -/
def Step1 (hd : List Int) (x : Letter) (a b : Nat) : Prop := (x.q = true ∧ b = a) ∨ (a < hd.length ∧ givesB x.s (hd.getD a 0) = true ∧ b = a + 1)
/-- Letters lead from a place to a place. -/
def Path (hd : List Int) : List Letter → Nat → Nat → Prop
  | [], a, b => a = b
  | x :: xs, a, b => ∃ c, Step1 hd x a c ∧ Path hd xs c b
theorem path_snoc {hd : List Int} : ∀ {xs : List Letter} {x : Letter} {a b : Nat}, Path hd (xs ++ [x]) a b ↔ ∃ c, Path hd xs a c ∧ Step1 hd x c b
  | [], x, a, b => by
    simp only [List.nil_append, Path]
    constructor
    · rintro ⟨c, h, rfl⟩; exact ⟨a, rfl, h⟩
    · rintro ⟨c, rfl, h⟩; exact ⟨b, h, rfl⟩
  | y :: xs, x, a, b => by
    simp only [List.cons_append, Path, path_snoc (xs := xs)]
    constructor
    · rintro ⟨c, h1, d, h2, h3⟩; exact ⟨d, ⟨c, h1, h2⟩, h3⟩
    · rintro ⟨d, ⟨c, h1, h2⟩, h3⟩; exact ⟨c, h1, d, h2, h3⟩

/-- Texts by the letters' places. -/
def atK (ls : List Letter) (k : Nat) : Letter := (ls[k]?).getD ⟨0, 0, false⟩
def lets (ls : List Letter) (ks : List Nat) : List Letter := ks.map (atK ls)
def byteK (ls : List Letter) (k : Nat) : UInt8 := (atK ls k).c.toNat.toUInt8
def bytesK (ls : List Letter) (ks : List Nat) : List UInt8 := ks.map (byteK ls)
def InK (L m : Nat) (ks : List Nat) : Prop := ks.length = m ∧ ∀ k ∈ ks, k < L
abbrev lessN (a b : List Nat) : Bool := lessL (natI a) (natI b)
theorem natI_inj {a b : List Nat} (h : natI a = natI b) : a = b := by
  have := congrArg (List.map Int.toNat) h
  simpa [natI, Function.comp_def] using this
/-- The first text with a property. -/
def LeastK (L m : Nat) (p : List Nat → Prop) (ks : List Nat) : Prop := InK L m ks ∧ p ks ∧ ∀ js, InK L m js → p js → js = ks ∨ lessN ks js = true
theorem LeastK.unique {L m : Nat} {p : List Nat → Prop} {a b : List Nat} (ha : LeastK L m p a) (hb : LeastK L m p b) : a = b := by
  rcases ha.2.2 b hb.1 hb.2.1 with h | h
  · exact h.symm
  · rcases hb.2.2 a ha.1 ha.2.1 with g | g
    · exact g
    · have := lessL_trans' h g
      rw [lessL_refl] at this; cases this

structure LsD (ls : List Letter) : Prop where
  ok : ∀ x ∈ ls, 97 ≤ x.c ∧ x.c ≤ 122
  nd : (ls.map (·.c)).Nodup
theorem atK_get {ls : List Letter} {k : Nat} (h : k < ls.length) : ls[k]? = some (atK ls k) := by
  obtain ⟨x, hx⟩ := ex_get h
  unfold atK
  rw [hx]; rfl
theorem byteK_toNat {ls : List Letter} (D : LsD ls) {k : Nat} (h : k < ls.length) : ((byteK ls k).toNat : Int) = (atK ls k).c := by
  have := D.ok _ (List.mem_of_getElem? (atK_get h))
  unfold byteK
  have e : (atK ls k).c.toNat.toUInt8.toNat = (atK ls k).c.toNat % 256 := rfl
  rw [e]; omega
theorem indexC_byte {ls : List Letter} (D : LsD ls) {k : Nat} (h : k < ls.length) : indexC ls (byteK ls k).toNat = k := by
  have hk := atK_get h
  rw [byteK_toNat D h]
  unfold indexC
  rw [idxF_eq _ (i := k) hk (by simp), Int.zero_add]
  intro j y hj hy
  have := (nodup_iff_take (·.c) ls).1 D.nd k _ hk y (List.mem_iff_getElem?.2 ⟨j, by rw [List.getElem?_take, if_pos hj, hy]⟩)
  simpa using this
theorem cmpB_less {ls : List Letter} (D : LsD ls) : ∀ {a b : List Nat}, a.length = b.length → (∀ k ∈ a, k < ls.length) → (∀ k ∈ b, k < ls.length) → (cmpB (ordF ls) (bytesK ls a) (bytesK ls b) < 0 ↔ lessN a b = true)
  | [], [], _, _, _ => by simp [bytesK, cmpB, lessN, lessL]
  | u :: a, v :: b, hl, ha, hb => by
    have ih := cmpB_less D (a := a) (b := b) (by simpa using hl) (fun k hk => ha k (by simp [hk])) (fun k hk => hb k (by simp [hk]))
    have eu := indexC_byte D (ha u (by simp))
    have ev := indexC_byte D (hb v (by simp))
    simp only [bytesK, List.map_cons, cmpB, lessN, natI, lessL] at ih ⊢
    have eo : ordF ls (byteK ls u) (byteK ls v) = (u : Int) - v := by unfold ordF; rw [eu, ev]
    rw [eo]
    by_cases e : u = v
    · subst e
      rw [if_pos (by omega), if_pos rfl]; exact ih
    · rw [if_neg (by omega), if_neg (by omega), decide_eq_true_iff]; omega
theorem lessN_cons {u v : Nat} {a b : List Nat} : lessN (u :: a) (v :: b) = if u = v then lessN a b else decide (u < v) := by
  simp only [lessN, natI, List.map_cons, lessL, Int.natCast_inj, Int.ofNat_lt]

/-- What the closure of Spell gives is the first text that is heard so. -/
theorem wr_least {ls : List Letter} (D : LsD ls) (hd : List Int) : ∀ (m d : Nat), match wr ls hd m d with
    | some t => ∃ ks, t = bytesK ls ks ∧ LeastK ls.length m (fun js => Path hd (lets ls js) d hd.length) ks
    | none => ∀ js, InK ls.length m js → ¬ Path hd (lets ls js) d hd.length
  | 0, d => by
    simp only [wr]
    by_cases h : d = hd.length
    · rw [if_pos h]
      refine ⟨[], rfl, ⟨rfl, by simp⟩, h, ?_⟩
      intro js hj _
      exact .inl (List.length_eq_zero_iff.1 hj.1)
    · rw [if_neg h]
      intro js hj hp
      rw [List.length_eq_zero_iff.1 hj.1] at hp
      exact h hp
  | m + 1, d => by
    have i0 := wr_least D hd m d
    have i1 := wr_least D hd m (d + 1)
    let fx : Letter → Option (List UInt8) := fun x => wrC ls (if x.q = true then wr ls hd m d else none) (if d < hd.length ∧ givesB x.s (hd.getD d 0) = true then wr ls hd m (d + 1) else none)
    -- one letter
    have key : ∀ k, k < ls.length → match fx (atK ls k) with
        | some t => ∃ ks, t = bytesK ls ks ∧ LeastK ls.length m (fun js => Path hd (lets ls (k :: js)) d hd.length) ks
        | none => ∀ js, InK ls.length m js → ¬ Path hd (lets ls (k :: js)) d hd.length := by
      intro k hk
      have hp : ∀ js, Path hd (lets ls (k :: js)) d hd.length ↔ ((atK ls k).q = true ∧ Path hd (lets ls js) d hd.length) ∨ ((d < hd.length ∧ givesB (atK ls k).s (hd.getD d 0) = true) ∧ Path hd (lets ls js) (d + 1) hd.length) := by
        intro js
        simp only [lets, List.map_cons, Path, Step1]
        constructor
        · rintro ⟨c, ⟨hq, rfl⟩ | ⟨h1, h2, rfl⟩, h3⟩
          · exact .inl ⟨hq, h3⟩
          · exact .inr ⟨⟨h1, h2⟩, h3⟩
        · rintro (⟨hq, h3⟩ | ⟨⟨h1, h2⟩, h3⟩)
          · exact ⟨d, .inl ⟨hq, rfl⟩, h3⟩
          · exact ⟨d + 1, .inr ⟨h1, h2, rfl⟩, h3⟩
      generalize hS : (if (atK ls k).q = true then wr ls hd m d else none) = S
      generalize hT : (if d < hd.length ∧ givesB (atK ls k).s (hd.getD d 0) = true then wr ls hd m (d + 1) else none) = T
      have hfx : fx (atK ls k) = wrC ls S T := by show wrC ls _ _ = _; rw [hS, hT]
      have hS' : match S with
          | some t => ∃ ks, t = bytesK ls ks ∧ LeastK ls.length m (fun js => (atK ls k).q = true ∧ Path hd (lets ls js) d hd.length) ks
          | none => ∀ js, InK ls.length m js → ¬ ((atK ls k).q = true ∧ Path hd (lets ls js) d hd.length) := by
        by_cases hq : (atK ls k).q = true
        · rw [if_pos hq] at hS
          rw [hS] at i0
          cases S with
          | none => intro js hj h; exact i0 js hj h.2
          | some t =>
            obtain ⟨ks, h1, h2, h3, h4⟩ := i0
            exact ⟨ks, h1, h2, ⟨hq, h3⟩, fun js hj h => h4 js hj h.2⟩
        · rw [if_neg hq] at hS
          subst hS
          intro js hj h; exact hq h.1
      have hT' : match T with
          | some t => ∃ ks, t = bytesK ls ks ∧ LeastK ls.length m (fun js => (d < hd.length ∧ givesB (atK ls k).s (hd.getD d 0) = true) ∧ Path hd (lets ls js) (d + 1) hd.length) ks
          | none => ∀ js, InK ls.length m js → ¬ ((d < hd.length ∧ givesB (atK ls k).s (hd.getD d 0) = true) ∧ Path hd (lets ls js) (d + 1) hd.length) := by
        by_cases hq : d < hd.length ∧ givesB (atK ls k).s (hd.getD d 0) = true
        · rw [if_pos hq] at hT
          rw [hT] at i1
          cases T with
          | none => intro js hj h; exact i1 js hj h.2
          | some t =>
            obtain ⟨ks, h1, h2, h3, h4⟩ := i1
            exact ⟨ks, h1, h2, ⟨hq, h3⟩, fun js hj h => h4 js hj h.2⟩
        · rw [if_neg hq] at hT
          subst hT
          intro js hj h; exact hq h.1
      rw [hfx]
      cases T with
      | none =>
        cases S with
        | none =>
          intro js hj h
          rcases (hp js).1 h with h | h
          · exact hS' js hj h
          · exact hT' js hj h
        | some s =>
          obtain ⟨ks, h1, h2, h3, h4⟩ := hS'
          refine ⟨ks, h1, h2, (hp ks).2 (.inl h3), fun js hj h => ?_⟩
          rcases (hp js).1 h with h | h
          · exact h4 js hj h
          · exact absurd h (hT' js hj)
      | some t =>
        obtain ⟨kt, t1, t2, t3, t4⟩ := hT'
        cases S with
        | none =>
          refine ⟨kt, t1, t2, (hp kt).2 (.inr t3), fun js hj h => ?_⟩
          rcases (hp js).1 h with h | h
          · exact absurd h (hS' js hj)
          · exact t4 js hj h
        | some s =>
          obtain ⟨ks, s1, s2, s3, s4⟩ := hS'
          have hc := cmpB_less D (a := kt) (b := ks) (by rw [t2.1, s2.1]) t2.2 s2.2
          rw [← t1, ← s1] at hc
          simp only [wrC]
          by_cases hlt : cmpB (ordF ls) t s < 0
          · rw [if_pos hlt]
            have hl := hc.1 hlt
            refine ⟨kt, t1, t2, (hp kt).2 (.inr t3), fun js hj h => ?_⟩
            rcases (hp js).1 h with h | h
            · rcases s4 js hj h with rfl | h
              · exact .inr hl
              · exact .inr (lessL_trans' hl h)
            · exact t4 js hj h
          · rw [if_neg hlt]
            have hl : lessN kt ks = false := by
              cases hx : lessN kt ks with
              | false => rfl
              | true => exact absurd (hc.2 hx) hlt
            refine ⟨ks, s1, s2, (hp ks).2 (.inl s3), fun js hj h => ?_⟩
            rcases (hp js).1 h with h | h
            · exact s4 js hj h
            · rcases t4 js hj h with rfl | h
              · by_cases e : js = ks
                · exact .inl e
                · exact .inr (lessL_total' (fun e' => e (natI_inj e')) hl)
              · by_cases e : kt = ks
                · subst e; exact .inr h
                · have := lessL_total' (fun e' => e (natI_inj e')) hl
                  exact .inr (lessL_trans' this h)
    -- all letters
    have hw : wr ls hd (m + 1) d = ls.findSome? fun x => (fx x).map (x.c.toNat.toUInt8 :: ·) := rfl
    have scan : ∀ n, n ≤ ls.length → match (ls.drop n).findSome? (fun x => (fx x).map (x.c.toNat.toUInt8 :: ·)) with
        | some t => ∃ k ks, n ≤ k ∧ k < ls.length ∧ t = bytesK ls (k :: ks) ∧ LeastK ls.length m (fun js => Path hd (lets ls (k :: js)) d hd.length) ks ∧ ∀ i, n ≤ i → i < k → ∀ js, InK ls.length m js → ¬ Path hd (lets ls (i :: js)) d hd.length
        | none => ∀ i, n ≤ i → i < ls.length → ∀ js, InK ls.length m js → ¬ Path hd (lets ls (i :: js)) d hd.length := by
      intro n hn
      generalize hj : ls.length - n = j
      induction j generalizing n with
      | zero =>
        rw [List.drop_eq_nil_of_le (by omega)]
        simp only [List.findSome?_nil]
        intro i h1 h2; omega
      | succ j ih =>
        have hlt : n < ls.length := by omega
        have hk := key n hlt
        have ih := ih (n + 1) (by omega) (by omega)
        rw [findSome_drop (atK_get hlt)]
        cases hf : fx (atK ls n) with
        | some t =>
          rw [hf] at hk
          obtain ⟨ks, h1, h2⟩ := hk
          simp only [Option.map_some]
          exact ⟨n, ks, Nat.le_refl _, hlt, by rw [h1]; rfl, h2, fun i h3 h4 => by omega⟩
        | none =>
          rw [hf] at hk
          simp only [Option.map_none]
          cases hr : (ls.drop (n + 1)).findSome? (fun x => (fx x).map (x.c.toNat.toUInt8 :: ·)) with
          | some t =>
            rw [hr] at ih
            obtain ⟨k, ks, h1, h2, h3, h4, h5⟩ := ih
            refine ⟨k, ks, by omega, h2, h3, h4, fun i h6 h7 => ?_⟩
            by_cases e : i = n
            · subst e; exact hk
            · exact h5 i (by omega) h7
          | none =>
            rw [hr] at ih
            intro i h1 h2
            by_cases e : i = n
            · subst e; exact hk
            · exact ih i (by omega) h2
    have h0 := scan 0 (by omega)
    rw [List.drop_zero, ← hw] at h0
    cases hr : wr ls hd (m + 1) d with
    | some t =>
      rw [hr] at h0
      obtain ⟨k, ks, _, hk, h2, ⟨⟨h3, h3'⟩, h4, h5⟩, h6⟩ := h0
      refine ⟨k :: ks, h2, ⟨by simp [h3], by intro j hj; rcases List.mem_cons.1 hj with rfl | hj; exact hk; exact h3' j hj⟩, h4, ?_⟩
      intro js hj hp
      cases js with
      | nil => have := hj.1; simp at this
      | cons i js =>
        have hi : i < ls.length := hj.2 i (by simp)
        have hjs : InK ls.length m js := ⟨by have := hj.1; simpa using this, fun x hx => hj.2 x (by simp [hx])⟩
        rcases Nat.lt_trichotomy i k with hl | rfl | hl
        · exact absurd hp (h6 i (by omega) hl js hjs)
        · rcases h5 js hjs hp with rfl | h
          · exact .inl rfl
          · right; rw [lessN_cons, if_pos rfl]; exact h
        · right; rw [lessN_cons, if_neg (by omega), decide_eq_true_iff]; exact hl
    | none =>
      rw [hr] at h0
      intro js hj hp
      cases js with
      | nil => have := hj.1; simp at this
      | cons i js =>
        exact h0 i (by omega) (hj.2 i (by simp)) js ⟨by have := hj.1; simpa using this, fun x hx => hj.2 x (by simp [hx])⟩ hp
end Go.Px

