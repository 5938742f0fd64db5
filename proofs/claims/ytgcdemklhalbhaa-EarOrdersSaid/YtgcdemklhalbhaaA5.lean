/- Part 5 of the proof of the statements of this seat (a logic of pure contracts, the functions lowered, their contracts, the statements). No conditions. -/
import Derived.Test.YtgcdemklhalbhaaA4
namespace Go.Px
open Go.Proofs

structure Letter where
  c : Int
  s : Int
  q : Bool
  deriving DecidableEq
abbrev Str (l : List UInt8) : AV := .v (.string ⟨l.toArray⟩)
abbrev Letter.enc (x : Letter) : List AV := [U x.c, I x.s, B x.q]
structure Alph where
  name : List UInt8
  ls : List Letter
  deriving DecidableEq
abbrev letters (l : List Letter) : AV := .sl 3 (l.map Letter.enc)
abbrev Alph.enc (x : Alph) : List AV := [Str x.name, letters x.ls]
structure Spelling where
  a : Int
  t : List UInt8
  deriving DecidableEq
abbrev Spelling.enc (x : Spelling) : List AV := [I x.a, Str x.t]
structure Book where
  n : Int
  al : List Alph
  ss : List Spelling
  deriving DecidableEq
abbrev alphs (l : List Alph) : AV := .sl 2 (l.map Alph.enc)
abbrev spells (l : List Spelling) : AV := .sl 2 (l.map Spelling.enc)
abbrev Book.enc (b : Book) : List AV := [I b.n, alphs b.al, spells b.ss]

theorem indexI_ev (l : List Int) (g : Nat) (caps : List AV) (p : Int → Bool) (h : ∀ x ∈ l, Ev Try.prog g (I x :: caps) (B (p x))) : Ev Try.prog 101 [.sl 1 (l.map (fun x => [I x])), .fn (.func g) [] caps] (I (idxF p l 0)) := by
  refine Ev.intro fn101 ?_
  refine LWp.slLen 0 rfl fun ha => ?_
  simp only [List.length_map] at ha
  refine LWp.sx (gs := []) (hs := []) rfl trivial ?_
  refine LWp.seq ?_
  refine LWp.sx (gs := []) (hs := []) rfl trivial ?_
  refine LWp.blockT (fun _ : Unit => idxF p l 0 = -1) (fun _ => el []) (fun _ => []) (fun _ => []) ?_ ?_
  · refine LWp.loopN (fun k : Nat => k ≤ l.length ∧ idxF p l 0 = idxF p (l.drop k) k) (fun k => el [(0, .sl 1 (l.map (fun x => [I x]))), (1, .fn (.func g) [] caps), (7, I l.length), (8, I k)]) (fun _ => []) (fun _ => []) (fun k => l.length - k) 0 ⟨by omega, rfl⟩
      (Ent.el ⟨rfl, rfl, by show I _ = I _; simp, rfl, trivial⟩) ?_
    rintro k ⟨hk, hi⟩
    refine LWp.sx (gs := []) (hs := []) rfl trivial ?_
    refine LWp.seq (LWp.ite rfl (fun hc => ?_) (fun hc => ?_))
    · simp only [decide_eq_true_eq, Int.ofNat_lt] at hc
      obtain ⟨x, hx⟩ := ex_get hc
      rw [drop_cons hx, idxF] at hi
      refine LWp.skip (LWp.seq (LWp.block ?_))
      refine LWp.sx (gs := []) (hs := []) rfl trivial ?_
      refine LWp.seq ?_
      refine LWp.x (gs := []) (hs := [.cells ([I x]), .ret (B (p x))]) rfl ⟨⟨by omega, by simp [hx]⟩, h x (List.mem_of_getElem? hx), trivial⟩ ?_
      refine LWp.ite rfl (fun hb => ?_) (fun hb => ?_)
      · refine LWp.sx (gs := []) (hs := []) rfl trivial ?_
        refine LWp.ret (retT (.inr rfl) (.one (.tmp ?_ rfl)))
        show I _ = I _
        rw [hi, hb]; rfl
      · refine LWp.skip ?_
        refine LWp.x (gs := []) (hs := []) rfl ⟨by omega, trivial⟩ ?_
        exact ⟨k + 1, ⟨hc, by rw [hi, hb]; rfl⟩, by omega, Ent.el ⟨rfl, rfl, rfl, rfl, trivial⟩⟩
    · simp only [decide_eq_false_iff_not, Int.ofNat_lt] at hc
      refine LWp.exit ⟨(), ?_, Ent.el trivial⟩
      rw [hi, drop_nil hc]; rfl
  · intro _ h
    refine LWp.sx (gs := []) (hs := []) rfl trivial ?_
    refine LWp.ret (retT (.inr rfl) (.one (.tmp ?_ rfl)))
    rw [h]; rfl

theorem indexL_ev (l : List Letter) (g : Nat) (caps : List AV) (p : Letter → Bool) (h : ∀ x ∈ l, Ev Try.prog g (.agg x.enc :: caps) (B (p x))) : Ev Try.prog 91 [.sl 3 (l.map Letter.enc), .fn (.func g) [] caps] (I (idxF p l 0)) := by
  refine Ev.intro fn91 ?_
  refine LWp.slLen 0 rfl fun ha => ?_
  simp only [List.length_map] at ha
  refine LWp.sx (gs := []) (hs := []) rfl trivial ?_
  refine LWp.seq ?_
  refine LWp.sx (gs := []) (hs := []) rfl trivial ?_
  refine LWp.blockT (fun _ : Unit => idxF p l 0 = -1) (fun _ => el []) (fun _ => []) (fun _ => []) ?_ ?_
  · refine LWp.loopN (fun k : Nat => k ≤ l.length ∧ idxF p l 0 = idxF p (l.drop k) k) (fun k => el [(0, .sl 3 (l.map Letter.enc)), (1, .fn (.func g) [] caps), (7, I l.length), (8, I k)]) (fun _ => []) (fun _ => []) (fun k => l.length - k) 0 ⟨by omega, rfl⟩
      (Ent.el ⟨rfl, rfl, by show I _ = I _; simp, rfl, trivial⟩) ?_
    rintro k ⟨hk, hi⟩
    refine LWp.sx (gs := []) (hs := []) rfl trivial ?_
    refine LWp.seq (LWp.ite rfl (fun hc => ?_) (fun hc => ?_))
    · simp only [decide_eq_true_eq, Int.ofNat_lt] at hc
      obtain ⟨x, hx⟩ := ex_get hc
      rw [drop_cons hx, idxF] at hi
      refine LWp.skip (LWp.seq (LWp.block ?_))
      refine LWp.sx (gs := []) (hs := []) rfl trivial ?_
      refine LWp.seq ?_
      refine LWp.x (gs := []) (hs := [.cells (x.enc), .ret (B (p x))]) rfl ⟨⟨by omega, by simp [hx]⟩, h x (List.mem_of_getElem? hx), trivial⟩ ?_
      refine LWp.ite rfl (fun hb => ?_) (fun hb => ?_)
      · refine LWp.sx (gs := []) (hs := []) rfl trivial ?_
        refine LWp.ret (retT (.inr rfl) (.one (.tmp ?_ rfl)))
        show I _ = I _
        rw [hi, hb]; rfl
      · refine LWp.skip ?_
        refine LWp.x (gs := []) (hs := []) rfl ⟨by omega, trivial⟩ ?_
        exact ⟨k + 1, ⟨hc, by rw [hi, hb]; rfl⟩, by omega, Ent.el ⟨rfl, rfl, rfl, rfl, trivial⟩⟩
    · simp only [decide_eq_false_iff_not, Int.ofNat_lt] at hc
      refine LWp.exit ⟨(), ?_, Ent.el trivial⟩
      rw [hi, drop_nil hc]; rfl
  · intro _ h
    refine LWp.sx (gs := []) (hs := []) rfl trivial ?_
    refine LWp.ret (retT (.inr rfl) (.one (.tmp ?_ rfl)))
    rw [h]; rfl

theorem indexA_ev (l : List Alph) (g : Nat) (caps : List AV) (p : Alph → Bool) (h : ∀ x ∈ l, Ev Try.prog g (.agg x.enc :: caps) (B (p x))) : Ev Try.prog 86 [.sl 2 (l.map Alph.enc), .fn (.func g) [] caps] (I (idxF p l 0)) := by
  refine Ev.intro fn86 ?_
  refine LWp.slLen 0 rfl fun ha => ?_
  simp only [List.length_map] at ha
  refine LWp.sx (gs := []) (hs := []) rfl trivial ?_
  refine LWp.seq ?_
  refine LWp.sx (gs := []) (hs := []) rfl trivial ?_
  refine LWp.blockT (fun _ : Unit => idxF p l 0 = -1) (fun _ => el []) (fun _ => []) (fun _ => []) ?_ ?_
  · refine LWp.loopN (fun k : Nat => k ≤ l.length ∧ idxF p l 0 = idxF p (l.drop k) k) (fun k => el [(0, .sl 2 (l.map Alph.enc)), (1, .fn (.func g) [] caps), (7, I l.length), (8, I k)]) (fun _ => []) (fun _ => []) (fun k => l.length - k) 0 ⟨by omega, rfl⟩
      (Ent.el ⟨rfl, rfl, by show I _ = I _; simp, rfl, trivial⟩) ?_
    rintro k ⟨hk, hi⟩
    refine LWp.sx (gs := []) (hs := []) rfl trivial ?_
    refine LWp.seq (LWp.ite rfl (fun hc => ?_) (fun hc => ?_))
    · simp only [decide_eq_true_eq, Int.ofNat_lt] at hc
      obtain ⟨x, hx⟩ := ex_get hc
      rw [drop_cons hx, idxF] at hi
      refine LWp.skip (LWp.seq (LWp.block ?_))
      refine LWp.sx (gs := []) (hs := []) rfl trivial ?_
      refine LWp.seq ?_
      refine LWp.x (gs := []) (hs := [.cells (x.enc), .ret (B (p x))]) rfl ⟨⟨by omega, by simp [hx]⟩, h x (List.mem_of_getElem? hx), trivial⟩ ?_
      refine LWp.ite rfl (fun hb => ?_) (fun hb => ?_)
      · refine LWp.sx (gs := []) (hs := []) rfl trivial ?_
        refine LWp.ret (retT (.inr rfl) (.one (.tmp ?_ rfl)))
        show I _ = I _
        rw [hi, hb]; rfl
      · refine LWp.skip ?_
        refine LWp.x (gs := []) (hs := []) rfl ⟨by omega, trivial⟩ ?_
        exact ⟨k + 1, ⟨hc, by rw [hi, hb]; rfl⟩, by omega, Ent.el ⟨rfl, rfl, rfl, rfl, trivial⟩⟩
    · simp only [decide_eq_false_iff_not, Int.ofNat_lt] at hc
      refine LWp.exit ⟨(), ?_, Ent.el trivial⟩
      rw [hi, drop_nil hc]; rfl
  · intro _ h
    refine LWp.sx (gs := []) (hs := []) rfl trivial ?_
    refine LWp.ret (retT (.inr rfl) (.one (.tmp ?_ rfl)))
    rw [h]; rfl


theorem idxF_iff {α : Type} (p : α → Bool) : ∀ (l : List α) (k : Int), 0 ≤ k → (0 ≤ idxF p l k ↔ l.any p = true)
  | [], k, h => by simp [idxF]
  | x :: l, k, h => by
    have ih := idxF_iff p l (k + 1) (by omega)
    cases hp : p x with
    | true =>
      have : idxF p (x :: l) k = k := by simp only [idxF, hp, if_true]
      rw [this]; simp [hp, h]
    | false =>
      have : idxF p (x :: l) k = idxF p l (k + 1) := by simp only [idxF, hp, if_false, Bool.false_eq_true]
      rw [this, ih]; simp [hp]
theorem idxF_ge {α : Type} (p : α → Bool) (l : List α) (k : Int) (h : 0 ≤ k) : (decide (idxF p l k ≥ 0)) = l.any p :=
  Bool.eq_iff_iff.2 (by rw [decide_eq_true_iff]; exact idxF_iff p l k h)

theorem containsI_ev (l : List Int) (g : Nat) (caps : List AV) (p : Int → Bool) (h : ∀ x ∈ l, Ev Try.prog g (I x :: caps) (B (p x))) : Ev Try.prog 84 [.sl 1 (l.map (fun x => [I x])), .fn (.func g) [] caps] (B (l.any p)) := by
  refine Ev.intro fn84 ?_
  refine LWp.sx (gs := []) (hs := []) rfl trivial ?_
  refine LWp.sx (gs := []) (hs := [.ret (I (idxF p l 0))]) rfl ⟨indexI_ev l g caps p h, trivial⟩ ?_
  refine LWp.ret (retT (.inr rfl) (.one (.tmp ?_ rfl)))
  show B _ = B _
  rw [idxF_ge p l 0 (by omega)]

theorem containsA_ev (l : List Alph) (g : Nat) (caps : List AV) (p : Alph → Bool) (h : ∀ x ∈ l, Ev Try.prog g (.agg x.enc :: caps) (B (p x))) : Ev Try.prog 47 [.sl 2 (l.map Alph.enc), .fn (.func g) [] caps] (B (l.any p)) := by
  refine Ev.intro fn47 ?_
  refine LWp.sx (gs := []) (hs := []) rfl trivial ?_
  refine LWp.sx (gs := []) (hs := [.ret (I (idxF p l 0))]) rfl ⟨indexA_ev l g caps p h, trivial⟩ ?_
  refine LWp.ret (retT (.inr rfl) (.one (.tmp ?_ rfl)))
  show B _ = B _
  rw [idxF_ge p l 0 (by omega)]


/-- The first error, and where. -/
def failF (f : Nat → Int) : Nat → Nat → Int × Int
  | 0, _ => (0, 0)
  | m + 1, k => if f k = 0 then failF f m (k + 1) else ((k : Int), f k)

theorem failingA_ev (l : List Alph) (g : Nat) (caps : List AV) (f : Nat → Int) (h : ∀ (i : Nat) (x : Alph), l[i]? = some x → Ev Try.prog g (I i :: .agg x.enc :: caps) (I (f i))) :
    Ev Try.prog 45 [.sl 2 (l.map Alph.enc), .fn (.func g) [] caps] (.tup [I (failF f l.length 0).1, I (failF f l.length 0).2]) := by
  refine Ev.intro fn45 ?_
  refine LWp.slLen 0 rfl fun ha => ?_
  simp only [List.length_map] at ha
  refine LWp.sx (gs := []) (hs := []) rfl trivial ?_
  refine LWp.seq ?_
  refine LWp.sx (gs := []) (hs := []) rfl trivial ?_
  refine LWp.blockT (fun _ : Unit => failF f l.length 0 = (0, 0)) (fun _ => el []) (fun _ => []) (fun _ => []) ?_ ?_
  · refine LWp.loopN (fun k : Nat => k ≤ l.length ∧ failF f l.length 0 = failF f (l.length - k) k) (fun k => el [(1, .fn (.func g) [] caps), (9, .sl 2 (l.map Alph.enc)), (10, I l.length), (11, I k)]) (fun _ => []) (fun _ => []) (fun k => l.length - k) 0 ⟨by omega, rfl⟩
      (Ent.el ⟨rfl, rfl, by show I _ = I _; simp, rfl, trivial⟩) ?_
    rintro k ⟨hk, hi⟩
    refine LWp.sx (gs := []) (hs := []) rfl trivial ?_
    refine LWp.seq (LWp.ite rfl (fun hc => ?_) (fun hc => ?_))
    · simp only [decide_eq_true_eq, Int.ofNat_lt] at hc
      obtain ⟨x, hx⟩ := ex_get hc
      rw [show l.length - k = (l.length - (k + 1)) + 1 by omega, failF] at hi
      refine LWp.skip (LWp.seq (LWp.block ?_))
      refine LWp.sx (gs := []) (hs := [.cells x.enc, .lin]) rfl ⟨⟨by omega, by simp [hx]⟩, rfl, ⟨rfl, rfl, rfl, by decide⟩, trivial⟩ ?_
      refine LWp.sx (gs := []) (hs := [.ret (I (f k))]) rfl ⟨h k x hx, trivial⟩ ?_
      refine LWp.seq ?_
      refine LWp.x (gs := []) (hs := []) rfl trivial ?_
      refine LWp.ite rfl (fun hb => ?_) (fun hb => ?_)
      · simp only [bne_iff_ne, ne_eq] at hb
        rw [if_neg hb] at hi
        refine LWp.sx (gs := []) (hs := []) rfl trivial ?_
        refine LWp.ret (retT (.inr rfl) (.many (by decide) ⟨.tmp ?_ rfl, .tmp ?_ rfl, trivial⟩))
        · show I _ = I _
          rw [hi]
        · show I _ = I _
          rw [hi]
      · simp only [bne_eq_false_iff_eq] at hb
        rw [if_pos hb] at hi
        refine LWp.skip ?_
        refine LWp.x (gs := []) (hs := []) rfl ⟨by omega, trivial⟩ ?_
        exact ⟨k + 1, ⟨hc, hi⟩, by omega, Ent.el ⟨rfl, rfl, rfl, rfl, trivial⟩⟩
    · simp only [decide_eq_false_iff_not, Int.ofNat_lt] at hc
      refine LWp.exit ⟨(), ?_, Ent.el trivial⟩
      rw [hi, show l.length - k = 0 by omega]; rfl
  · intro _ h
    refine LWp.sx (gs := []) (hs := []) rfl trivial ?_
    refine LWp.ret (retT (.inr rfl) (.many (by decide) ⟨.tmp ?_ rfl, .tmp ?_ rfl, trivial⟩))
    · rw [h]; rfl
    · rw [h]; rfl

theorem failingL_ev (l : List Letter) (g : Nat) (caps : List AV) (f : Nat → Int) (h : ∀ (i : Nat) (x : Letter), l[i]? = some x → Ev Try.prog g (I i :: .agg x.enc :: caps) (I (f i))) :
    Ev Try.prog 49 [.sl 3 (l.map Letter.enc), .fn (.func g) [] caps] (.tup [I (failF f l.length 0).1, I (failF f l.length 0).2]) := by
  refine Ev.intro fn49 ?_
  refine LWp.slLen 0 rfl fun ha => ?_
  simp only [List.length_map] at ha
  refine LWp.sx (gs := []) (hs := []) rfl trivial ?_
  refine LWp.seq ?_
  refine LWp.sx (gs := []) (hs := []) rfl trivial ?_
  refine LWp.blockT (fun _ : Unit => failF f l.length 0 = (0, 0)) (fun _ => el []) (fun _ => []) (fun _ => []) ?_ ?_
  · refine LWp.loopN (fun k : Nat => k ≤ l.length ∧ failF f l.length 0 = failF f (l.length - k) k) (fun k => el [(1, .fn (.func g) [] caps), (9, .sl 3 (l.map Letter.enc)), (10, I l.length), (11, I k)]) (fun _ => []) (fun _ => []) (fun k => l.length - k) 0 ⟨by omega, rfl⟩
      (Ent.el ⟨rfl, rfl, by show I _ = I _; simp, rfl, trivial⟩) ?_
    rintro k ⟨hk, hi⟩
    refine LWp.sx (gs := []) (hs := []) rfl trivial ?_
    refine LWp.seq (LWp.ite rfl (fun hc => ?_) (fun hc => ?_))
    · simp only [decide_eq_true_eq, Int.ofNat_lt] at hc
      obtain ⟨x, hx⟩ := ex_get hc
      rw [show l.length - k = (l.length - (k + 1)) + 1 by omega, failF] at hi
      refine LWp.skip (LWp.seq (LWp.block ?_))
      refine LWp.sx (gs := []) (hs := [.cells x.enc, .lin]) rfl ⟨⟨by omega, by simp [hx]⟩, rfl, ⟨rfl, rfl, rfl, by decide⟩, trivial⟩ ?_
      refine LWp.sx (gs := []) (hs := [.ret (I (f k))]) rfl ⟨h k x hx, trivial⟩ ?_
      refine LWp.seq ?_
      refine LWp.x (gs := []) (hs := []) rfl trivial ?_
      refine LWp.ite rfl (fun hb => ?_) (fun hb => ?_)
      · simp only [bne_iff_ne, ne_eq] at hb
        rw [if_neg hb] at hi
        refine LWp.sx (gs := []) (hs := []) rfl trivial ?_
        refine LWp.ret (retT (.inr rfl) (.many (by decide) ⟨.tmp ?_ rfl, .tmp ?_ rfl, trivial⟩))
        · show I _ = I _
          rw [hi]
        · show I _ = I _
          rw [hi]
      · simp only [bne_eq_false_iff_eq] at hb
        rw [if_pos hb] at hi
        refine LWp.skip ?_
        refine LWp.x (gs := []) (hs := []) rfl ⟨by omega, trivial⟩ ?_
        exact ⟨k + 1, ⟨hc, hi⟩, by omega, Ent.el ⟨rfl, rfl, rfl, rfl, trivial⟩⟩
    · simp only [decide_eq_false_iff_not, Int.ofNat_lt] at hc
      refine LWp.exit ⟨(), ?_, Ent.el trivial⟩
      rw [hi, show l.length - k = 0 by omega]; rfl
  · intro _ h
    refine LWp.sx (gs := []) (hs := []) rfl trivial ?_
    refine LWp.ret (retT (.inr rfl) (.many (by decide) ⟨.tmp ?_ rfl, .tmp ?_ rfl, trivial⟩))
    · rw [h]; rfl
    · rw [h]; rfl

theorem failingS_ev (l : List Spelling) (g : Nat) (caps : List AV) (f : Nat → Int) (h : ∀ (i : Nat) (x : Spelling), l[i]? = some x → Ev Try.prog g (I i :: .agg x.enc :: caps) (I (f i))) :
    Ev Try.prog 52 [.sl 2 (l.map Spelling.enc), .fn (.func g) [] caps] (.tup [I (failF f l.length 0).1, I (failF f l.length 0).2]) := by
  refine Ev.intro fn52 ?_
  refine LWp.slLen 0 rfl fun ha => ?_
  simp only [List.length_map] at ha
  refine LWp.sx (gs := []) (hs := []) rfl trivial ?_
  refine LWp.seq ?_
  refine LWp.sx (gs := []) (hs := []) rfl trivial ?_
  refine LWp.blockT (fun _ : Unit => failF f l.length 0 = (0, 0)) (fun _ => el []) (fun _ => []) (fun _ => []) ?_ ?_
  · refine LWp.loopN (fun k : Nat => k ≤ l.length ∧ failF f l.length 0 = failF f (l.length - k) k) (fun k => el [(1, .fn (.func g) [] caps), (9, .sl 2 (l.map Spelling.enc)), (10, I l.length), (11, I k)]) (fun _ => []) (fun _ => []) (fun k => l.length - k) 0 ⟨by omega, rfl⟩
      (Ent.el ⟨rfl, rfl, by show I _ = I _; simp, rfl, trivial⟩) ?_
    rintro k ⟨hk, hi⟩
    refine LWp.sx (gs := []) (hs := []) rfl trivial ?_
    refine LWp.seq (LWp.ite rfl (fun hc => ?_) (fun hc => ?_))
    · simp only [decide_eq_true_eq, Int.ofNat_lt] at hc
      obtain ⟨x, hx⟩ := ex_get hc
      rw [show l.length - k = (l.length - (k + 1)) + 1 by omega, failF] at hi
      refine LWp.skip (LWp.seq (LWp.block ?_))
      refine LWp.sx (gs := []) (hs := [.cells x.enc, .lin]) rfl ⟨⟨by omega, by simp [hx]⟩, rfl, ⟨rfl, rfl, rfl, by decide⟩, trivial⟩ ?_
      refine LWp.sx (gs := []) (hs := [.ret (I (f k))]) rfl ⟨h k x hx, trivial⟩ ?_
      refine LWp.seq ?_
      refine LWp.x (gs := []) (hs := []) rfl trivial ?_
      refine LWp.ite rfl (fun hb => ?_) (fun hb => ?_)
      · simp only [bne_iff_ne, ne_eq] at hb
        rw [if_neg hb] at hi
        refine LWp.sx (gs := []) (hs := []) rfl trivial ?_
        refine LWp.ret (retT (.inr rfl) (.many (by decide) ⟨.tmp ?_ rfl, .tmp ?_ rfl, trivial⟩))
        · show I _ = I _
          rw [hi]
        · show I _ = I _
          rw [hi]
      · simp only [bne_eq_false_iff_eq] at hb
        rw [if_pos hb] at hi
        refine LWp.skip ?_
        refine LWp.x (gs := []) (hs := []) rfl ⟨by omega, trivial⟩ ?_
        exact ⟨k + 1, ⟨hc, hi⟩, by omega, Ent.el ⟨rfl, rfl, rfl, rfl, trivial⟩⟩
    · simp only [decide_eq_false_iff_not, Int.ofNat_lt] at hc
      refine LWp.exit ⟨(), ?_, Ent.el trivial⟩
      rw [hi, show l.length - k = 0 by omega]; rfl
  · intro _ h
    refine LWp.sx (gs := []) (hs := []) rfl trivial ?_
    refine LWp.ret (retT (.inr rfl) (.many (by decide) ⟨.tmp ?_ rfl, .tmp ?_ rfl, trivial⟩))
    · rw [h]; rfl
    · rw [h]; rfl


theorem beyond1_ev (n lo hi : Int) : Ev Try.prog 85 [I n, .pi [I lo], .pi [I hi]] (B (decide (n < lo) || decide (n > hi))) := by
  refine Ev.intro fn85 ?_
  refine LWp.sx (gs := []) (hs := []) rfl trivial ?_
  by_cases h : n < lo
  · refine LWp.sx (gs := [(8, true)]) (hs := []) rfl (by simp [h]) ?_
    refine LWp.ret (retT (.inr rfl) (.one (.tmp ?_ rfl)))
    show B _ = B _
    simp [h]
  · refine LWp.sx (gs := [(8, false)]) (hs := []) rfl (by simp [h]) ?_
    refine LWp.ret (retT (.inr rfl) (.one (.tmp ?_ rfl)))
    show B _ = B _
    simp [h]
def beyondB (lo hi : Int) (l : List Int) : Bool := l.any fun n => decide (n < lo) || decide (n > hi)
theorem beyond_ev (lo hi : Int) (l : List Int) : Ev Try.prog 44 [I lo, I hi, ints l] (B (beyondB lo hi l)) := by
  refine Ev.intro fn44 ?_
  refine LWp.sx (gs := []) (hs := [.ice, .ice]) rfl ⟨⟨rfl, rfl⟩, ⟨rfl, rfl⟩, trivial⟩ ?_
  refine LWp.sx (gs := []) (hs := [.ret (B (beyondB lo hi l))]) rfl ⟨containsI_ev l _ _ _ (fun n _ => beyond1_ev n lo hi), trivial⟩ ?_
  refine LWp.ret (retT (.inr rfl) (.one (.tmp ?_ rfl)))
  rfl

theorem index1_ev (x : Letter) (c : Int) : Ev Try.prog 92 [.agg x.enc, .pi [U c]] (B (x.c == c)) := by
  refine Ev.intro fn92 ?_
  refine LWp.sx (gs := []) (hs := [.ice]) rfl ⟨⟨rfl, rfl⟩, trivial⟩ ?_
  refine LWp.sx (gs := []) (hs := []) rfl trivial ?_
  refine LWp.ret (retT (.inr rfl) (.one (.tmp ?_ rfl)))
  rfl
def indexC (l : List Letter) (c : Int) : Int := idxF (fun x => x.c == c) l 0
theorem index_ev (l : List Letter) (c : Int) : Ev Try.prog 54 [letters l, U c] (I (indexC l c)) := by
  refine Ev.intro fn54 ?_
  refine LWp.sx (gs := []) (hs := [.ice]) rfl ⟨⟨rfl, rfl⟩, trivial⟩ ?_
  refine LWp.sx (gs := []) (hs := [.ret (I (indexC l c))]) rfl ⟨indexL_ev l _ _ _ (fun x _ => index1_ev x c), trivial⟩ ?_
  refine LWp.ret (retT (.inr rfl) (.one (.tmp ?_ rfl)))
  rfl

def givesB (s k : Int) : Bool := ((((s / 2 ^ k.toNat).toNat &&& (1 : Int).toNat : Nat) : Int) == 1)
theorem gives_ev (x : Letter) (k : Int) (h0 : 0 ≤ x.s) (h1 : x.s < 9223372036854775808) (hk : 0 ≤ k) (hk2 : k < 64) : Ev Try.prog 78 [.agg x.enc, I k] (B (givesB x.s k)) := by
  have hq : 0 ≤ x.s / 2 ^ k.toNat := Int.ediv_nonneg h0 (Int.le_of_lt (Int.pow_pos (by omega)))
  have hq2 : x.s / 2 ^ k.toNat ≤ x.s := Int.ediv_le_self _ h0
  refine Ev.intro fn78 ?_
  refine LWp.sx (gs := []) (hs := [.ice]) rfl ⟨⟨rfl, rfl⟩, trivial⟩ ?_
  refine LWp.sx (gs := []) (hs := []) rfl ⟨⟨h0, hk, hk2⟩, ⟨⟨hq, by omega⟩, by omega, by omega⟩, trivial⟩ ?_
  refine LWp.ret (retT (.inr rfl) (.one (.tmp ?_ rfl)))
  rfl
end Go.Px

namespace Go.Px
open Go.Proofs

theorem decode_hi (s : ByteArray) (p : Nat) (h : 128 ≤ (s.get! p).toNat) : 128 ≤ (Utf8.decode s p).1 := by
  unfold Utf8.decode
  simp only [Nat.add_zero]
  rw [if_neg (by omega)]
  repeat' split
  all_goals simp_all [Utf8.runeError]
  all_goals omega
theorem decode_lo (s : ByteArray) (p : Nat) (h : (s.get! p).toNat < 128) : Utf8.decode s p = ((s.get! p).toNat, 1) := by
  unfold Utf8.decode
  simp only [Nat.add_zero]
  rw [if_pos (by omega)]

def okc (i : Nat) (c : Nat) : Bool := (decide (97 ≤ c) && decide (c ≤ 122)) || (decide (0 < i) && (c == 46 || (decide (48 ≤ c) && decide (c ≤ 57))))
def allN : List UInt8 → Nat → Bool
  | [], _ => true
  | c :: l, i => okc i c.toNat && allN l (i + 1)
def nameB (l : List UInt8) : Bool := allN l 0 && (decide (1 ≤ l.length) && decide (l.length ≤ 16))

theorem name_ev (l : List UInt8) (hl : l.length ≤ 9223372036854775807) : Ev Try.prog 19 [Str l] (B (nameB l)) := by
  refine Ev.intro fn19 ?_
  refine LWp.sx (gs := []) (hs := []) rfl trivial ?_
  refine LWp.seq (LWp.seq (LWp.ops ?_))
  refine WOps.x (gs := []) (hs := []) rfl trivial ?_
  refine WOps.cons (Op1.rangeS rfl (fun b => ?_))
  refine WOps.xd (gs := []) (hs := []) rfl trivial ?_
  refine LWp.blockT (fun _ : Unit => allN l 0 = true) (fun _ => el [(0, Str l)]) (fun _ => []) (fun _ => []) ?_ ?_
  · refine LWp.loopN (fun k : Nat => k ≤ l.length ∧ allN l 0 = allN (l.drop k) k) (fun k => el [(0, Str l), (7, .po b 0)]) (fun k => [(b, .raw (.stringIter ⟨l.toArray⟩ k))]) (fun _ => []) (fun k => l.length - k) 0 ⟨by omega, rfl⟩
      (Ent.el ⟨rfl, rfl, trivial⟩) ?_
    rintro k ⟨hk, hi⟩
    refine LWp.seq (LWp.ops (WOps.cons (Op1.nextS (i := 0) rfl rfl (fun hp => ?_) (fun hp => ?_))))
    · simp only [List.size_toArray, ByteArray.size] at hp
      obtain ⟨c, hc⟩ := ex_get hp
      have hg : (ByteArray.mk l.toArray).get! k = c := by
        have h2 := (List.getElem?_eq_some_iff.1 hc).2
        show l.toArray[k]! = c
        rw [getElem!_pos l.toArray k (by simpa using hp)]
        simpa using h2
      rw [drop_cons hc, allN] at hi
      have hwd : 128 ≤ c.toNat → 128 ≤ (Utf8.decode ⟨l.toArray⟩ k).1 := fun h => decode_hi _ _ (by rw [hg]; exact h)
      have hwl : c.toNat < 128 → Utf8.decode ⟨l.toArray⟩ k = (c.toNat, 1) := fun h => by rw [decode_lo _ _ (by rw [hg]; exact h), hg]
      generalize hde : Utf8.decode ⟨l.toArray⟩ k = de at hwd hwl
      obtain ⟨u, wd⟩ := de
      simp only at hwd
      refine WOps.xd (gs := []) (hs := []) rfl trivial ?_
      refine LWp.seq (LWp.ite (b := true) rfl (fun _ => LWp.skip ?_) (fun h => by cases h))
      refine LWp.block ?_
      refine LWp.sx (gs := []) (hs := []) rfl trivial ?_
      refine LWp.cutX (fun _ : Unit => True) (fun _ => el [(0, Str l), (7, .po b 0), (3, I k), (4, .v (.int .i32 u)), (5, B (decide (97 ≤ u) && decide (u ≤ 122)))]) (fun _ => [(b, .raw (.stringIter ⟨l.toArray⟩ (k + wd)))]) (fun _ => []) ?_ ?_
      · by_cases h1 : 97 ≤ u
        · refine LWp.x (gs := [(14, true)]) (hs := []) rfl (by simp; omega) ?_
          exact ⟨(), trivial, Ent.el ⟨rfl, rfl, rfl, rfl, by show B _ = B _; simp [h1]; omega, trivial⟩⟩
        · refine LWp.x (gs := [(14, false)]) (hs := []) rfl (by simp; omega) ?_
          exact ⟨(), trivial, Ent.el ⟨rfl, rfl, rfl, rfl, by show B _ = B _; simp [h1], trivial⟩⟩
      intro _ _
      refine LWp.cutX (fun _ : Unit => True) (fun _ => el [(0, Str l), (7, .po b 0), (35, B (!okc k u))]) (fun _ => [(b, .raw (.stringIter ⟨l.toArray⟩ (k + wd)))]) (fun _ => []) ?_ ?_
      · cases hlt : (decide (97 ≤ u) && decide (u ≤ 122)) with
        | true =>
          refine LWp.x (gs := [(20, false)]) (hs := []) rfl (by simp) ?_
          exact ⟨(), trivial, Ent.el ⟨rfl, rfl, by show B _ = B _; simp [okc, hlt], trivial⟩⟩
        | false =>
          by_cases h0 : k = 0
          · refine LWp.x (gs := [(20, true), (23, true)]) (hs := []) rfl (by simp [h0]) ?_
            exact ⟨(), trivial, Ent.el ⟨rfl, rfl, by show B _ = B _; simp [okc, hlt, h0], trivial⟩⟩
          · by_cases h1 : u = 46
            · refine LWp.x (gs := [(20, true), (23, false), (26, false)]) (hs := []) rfl (by simp [h0, h1]) ?_
              exact ⟨(), trivial, Ent.el ⟨rfl, rfl, by show B _ = B _; simp [okc, h1]; omega, trivial⟩⟩
            · by_cases h2 : u < 48
              · refine LWp.x (gs := [(20, true), (23, false), (26, true), (29, true)]) (hs := []) rfl (by simp [h0]; omega) ?_
                exact ⟨(), trivial, Ent.el ⟨rfl, rfl, by show B _ = B _; simp [okc, hlt, h1]; omega, trivial⟩⟩
              · refine LWp.x (gs := [(20, true), (23, false), (26, true), (29, false)]) (hs := []) rfl (by simp [h0]; omega) ?_
                have e : decide ((u : Int) > 57) = !okc k u := by
                  rw [Bool.eq_iff_iff]; simp [okc, hlt, h1]; omega
                exact ⟨(), trivial, Ent.el ⟨rfl, rfl, by rw [← e]; rfl, trivial⟩⟩
      intro _ _
      refine LWp.ite rfl (fun hb => ?_) (fun hb => ?_)
      · simp only [Bool.not_eq_true'] at hb
        refine LWp.sx (gs := []) (hs := []) rfl trivial ?_
        refine LWp.ret (retT (.inr rfl) (.one (.tmp ?_ rfl)))
        show B _ = B _
        have : okc k c.toNat = false := by
          by_cases hlt : c.toNat < 128
          · have := hwl hlt; cases this; exact hb
          · have := hwd (by omega)
            simp [okc]; omega
        simp [nameB, hi, this]
      · simp only [Bool.not_eq_false'] at hb
        have hu : u < 128 := by
          simp only [okc, Bool.or_eq_true, Bool.and_eq_true, decide_eq_true_eq, beq_iff_eq] at hb
          omega
        have hlt : c.toNat < 128 := by
          rcases Nat.lt_or_ge c.toNat 128 with h | h
          · exact h
          · have := hwd h; omega
        have := hwl hlt
        cases this
        refine LWp.skip ⟨k + 1, ⟨hp, by rw [hi, hb, Bool.true_and]⟩, by omega, Ent.el ⟨rfl, rfl, trivial⟩⟩
    · simp only [List.size_toArray, ByteArray.size] at hp
      refine WOps.xd (gs := []) (hs := []) rfl trivial ?_
      refine LWp.seq (LWp.ite (b := false) rfl (fun h => by cases h) (fun _ => LWp.exit ⟨(), ?_, ?_⟩))
      · rw [hi, drop_nil hp]; rfl
      · exact Ent.trans (Ent.dropH 0) (Ent.el ⟨rfl, trivial⟩)
  · intro _ h
    refine LWp.sx (gs := []) (hs := [.ice, .ret (B (beyondB 1 16 [(l.length : Int)]))]) rfl ⟨rfl, beyond_ev 1 16 [(l.length : Int)], trivial⟩ ?_
    refine LWp.ret (retT (.inr rfl) (.one (.tmp ?_ rfl)))
    have : (!beyondB 1 16 [(l.length : Int)]) = nameB l := by
      rw [Bool.eq_iff_iff]; simp [nameB, h, beyondB]; omega
    rw [← this]; rfl
end Go.Px

namespace Go.Px
open Go.Proofs

structure Letter.wf (x : Letter) : Prop where
  c0 : 0 ≤ x.c
  c1 : x.c < 256
  s0 : -9223372036854775808 ≤ x.s
  s1 : x.s ≤ 9223372036854775807

theorem pow2_le {k : Nat} (h : k ≤ 61) : (2 : Int) ^ k ≤ 2305843009213693952 := by
  have h1 : 2 ^ k ≤ 2 ^ 61 := Nat.pow_le_pow_right (by omega) h
  have h2 : ((2 ^ k : Nat) : Int) = (2 : Int) ^ k := by simp
  rw [← h2]; omega

theorem flaws1_ev (l : List Letter) (i : Nat) (x : Letter) (hx : l[i]? = some x) (hw : x.wf) : Ev Try.prog 87 [letters l, I i] (B (beyondB 97 122 [x.c])) := by
  refine Ev.intro fn87 ?_
  refine LWp.sx (gs := []) (hs := []) rfl trivial ?_
  refine LWp.sx (gs := []) (hs := [.cells x.enc, .ice, .ret (B (beyondB 97 122 [x.c]))]) rfl ⟨⟨by omega, by simp [hx]⟩, i64_wrap (by have := hw.c0; omega) (by have := hw.c1; omega), rfl, beyond_ev 97 122 [x.c], trivial⟩ ?_
  refine LWp.ret (retT (.inr rfl) (.one (.tmp ?_ rfl)))
  rfl
theorem flaws2_ev (l : List Letter) (i : Nat) (x : Letter) (hx : l[i]? = some x) : Ev Try.prog 88 [letters l, I i] (B (decide (indexC (l.take i) x.c ≥ 0))) := by
  have hlt := (List.getElem?_eq_some_iff.1 hx).1
  refine Ev.intro fn88 ?_
  refine LWp.sx (gs := []) (hs := []) rfl trivial ?_
  refine LWp.sd (gs := []) (hs := [.cells x.enc, .retS [letters (l.take i), U x.c] (I (indexC (l.take i) x.c))]) hmix rfl (by kernel_rfl) ⟨⟨⟨trivial, by omega⟩, by simp, by simp; omega⟩, ⟨by omega, by simp [hx]⟩, ⟨index_ev _ _, subL_self (by show [AV.sl 3 ((l.map Letter.enc).take i), U x.c] = _; rw [letters, List.map_take])⟩, trivial⟩ ?_
  refine LWp.ret (retT (.inr rfl) (.one (.tmp ?_ rfl)))
  rfl
theorem flaws3_ev (l : List Letter) (i : Nat) (x : Letter) (n : Int) (hx : l[i]? = some x) (h0 : 0 ≤ n) (h1 : n < 62) : Ev Try.prog 89 [letters l, I i, .pi [I n]] (B (beyondB 0 (2 ^ n.toNat - 1) [x.s])) := by
  have hp : (2 : Int) ^ n.toNat < 9223372036854775808 := by
    have := pow2_le (k := n.toNat) (by omega)
    omega
  have hp0 : (0 : Int) < 2 ^ n.toNat := Int.pow_pos (by omega)
  have e : (1 : Int) * 2 ^ n.toNat - 1 = 2 ^ n.toNat - 1 := by omega
  refine Ev.intro fn89 ?_
  refine LWp.sx (gs := []) (hs := []) rfl trivial ?_
  refine LWp.sd (gs := []) (hs := [.cells x.enc, .ice, .ret (B (beyondB 0 (1 * 2 ^ n.toNat - 1) [x.s]))]) hmix rfl (by kernel_rfl) ⟨⟨by omega, h0, by omega, by omega⟩, ⟨by omega, by omega⟩, ⟨by omega, by simp [hx]⟩, rfl, beyond_ev 0 (1 * 2 ^ n.toNat - 1) [x.s], trivial⟩ ?_
  refine LWp.ret (retT (.inr rfl) (.one (.tmp ?_ rfl)))
  rw [← e]; rfl
theorem flaws4_ev (l : List Letter) (i : Nat) (x : Letter) (hx : l[i]? = some x) : Ev Try.prog 90 [letters l, I i] (B (x.s == 0 && !x.q)) := by
  refine Ev.intro fn90 ?_
  refine LWp.sx (gs := []) (hs := []) rfl trivial ?_
  by_cases h : x.s = 0
  · refine LWp.sx (gs := [(11, true)]) (hs := [.cells x.enc, .cells x.enc]) rfl (by simp [hx, h]) ?_
    refine LWp.ret (retT (.inr rfl) (.one (.tmp ?_ rfl)))
    show B _ = B _
    simp [h]
  · refine LWp.sx (gs := [(11, false)]) (hs := [.cells x.enc]) rfl (by simp [hx, h]) ?_
    refine LWp.ret (retT (.inr rfl) (.one (.tmp ?_ rfl)))
    show B _ = B _
    simp [h]

def flawsA (n : Int) : List (List AV) := [[I 6, .fn (.func 87) [] []], [I 5, .fn (.func 88) [] []], [I 7, .fn (.func 89) [] [.pi [I n]]], [I 2, .fn (.func 90) [] []]]
theorem flaws_ev (n : Int) : Ev Try.prog 51 [I n] (.sl 2 (flawsA n)) := by
  refine Ev.intro fn51 ?_
  refine LWp.sx (gs := []) (hs := [.ice]) rfl ⟨⟨rfl, rfl⟩, trivial⟩ ?_
  refine LWp.sx (gs := []) (hs := [.ice]) rfl ⟨rfl, trivial⟩ ?_
  refine LWp.ret (retT (.inr rfl) (.one (.tmp ?_ rfl)))
  rfl

def letterErr (n : Int) (ls : List Letter) (i : Nat) : Int := match ls[i]? with
  | none => 0
  | some x => if beyondB 97 122 [x.c] = true then 6 else if decide (indexC (ls.take i) x.c ≥ 0) = true then 5 else if beyondB 0 (2 ^ n.toNat - 1) [x.s] = true then 7 else if (x.s == 0 && !x.q) = true then 2 else 0

/-- What is known when k flaws were looked at. -/
def Prev (n : Int) (ls : List Letter) (i : Nat) (x : Letter) : Nat → Prop
  | 0 => True
  | 1 => beyondB 97 122 [x.c] = false
  | 2 => beyondB 97 122 [x.c] = false ∧ decide (indexC (ls.take i) x.c ≥ 0) = false
  | 3 => beyondB 97 122 [x.c] = false ∧ decide (indexC (ls.take i) x.c ≥ 0) = false ∧ beyondB 0 (2 ^ n.toNat - 1) [x.s] = false
  | _ => beyondB 97 122 [x.c] = false ∧ decide (indexC (ls.take i) x.c ≥ 0) = false ∧ beyondB 0 (2 ^ n.toNat - 1) [x.s] = false ∧ (x.s == 0 && !x.q) = false

theorem check12_ev (b : Book) (a : Alph) (i : Nat) (x : Letter) (hx : a.ls[i]? = some x) (hw : x.wf) (h0 : 0 ≤ b.n) (h1 : b.n < 62) : Ev Try.prog 50 [I i, .agg x.enc, .pi b.enc, .pi a.enc] (I (letterErr b.n a.ls i)) := by
  refine Ev.intro fn50 ?_
  refine LWp.sx (gs := []) (hs := [.ice]) rfl ⟨⟨rfl, rfl⟩, trivial⟩ ?_
  refine LWp.seq ?_
  refine LWp.sx (gs := []) (hs := [.ret (.sl 2 (flawsA b.n))]) rfl ⟨flaws_ev b.n, trivial⟩ ?_
  refine LWp.blockT (fun _ : Unit => Prev b.n a.ls i x 4) (fun _ => el []) (fun _ => []) (fun _ => []) ?_ ?_
  · refine LWp.loopN (fun k : Nat => k ≤ 4 ∧ Prev b.n a.ls i x k) (fun k => el [(0, I i), (3, .pi a.enc), (11, .sl 2 (flawsA b.n)), (12, I 4), (13, I k)]) (fun _ => []) (fun _ => []) (fun k => 4 - k) 0 ⟨by omega, trivial⟩
      (Ent.el ⟨rfl, rfl, rfl, rfl, rfl, trivial⟩) ?_
    rintro k ⟨hk, hp⟩
    refine LWp.sx (gs := []) (hs := []) rfl trivial ?_
    refine LWp.seq (LWp.ite rfl (fun hc => ?_) (fun hc => ?_))
    · simp only [decide_eq_true_eq] at hc
      have hc' : k < 4 := by omega
      refine LWp.skip (LWp.seq (LWp.block ?_))
      obtain rfl | rfl | rfl | rfl : k = 0 ∨ k = 1 ∨ k = 2 ∨ k = 3 := by omega
      · refine LWp.sx (gs := []) (hs := [.cells [I 6, .fn (.func 87) [] []], .lin]) rfl ⟨⟨by omega, rfl⟩, rfl, ⟨rfl, rfl, rfl, by decide⟩, trivial⟩ ?_
        refine LWp.ent (Ent.freezeLbox (t := 8) rfl) ?_
        refine LWp.seq ?_
        refine LWp.x (gs := []) (hs := [.ret (B (beyondB 97 122 [x.c]))]) rfl ⟨flaws1_ev a.ls i x hx hw, trivial⟩ ?_
        refine LWp.ite rfl (fun hb => ?_) (fun hb => ?_)
        · refine LWp.sx (gs := []) (hs := []) rfl trivial ?_
          refine LWp.ret (retT (.inr rfl) (.one (.tmp ?_ rfl)))
          show I _ = I _
          simp only [letterErr, hx, Prev] at hp ⊢
          first | (simp [hb]; done) | simp [hp, hb]
        · refine LWp.skip ?_
          refine LWp.x (gs := []) (hs := []) rfl ⟨by omega, trivial⟩ ?_
          exact ⟨0 + 1, ⟨by omega, by simp only [Prev] at hp ⊢; first | (simp [hb]; done) | simp [hp, hb]⟩, by omega, Ent.el ⟨rfl, rfl, rfl, rfl, rfl, trivial⟩⟩

      · refine LWp.sx (gs := []) (hs := [.cells [I 5, .fn (.func 88) [] []], .lin]) rfl ⟨⟨by omega, rfl⟩, rfl, ⟨rfl, rfl, rfl, by decide⟩, trivial⟩ ?_
        refine LWp.ent (Ent.freezeLbox (t := 8) rfl) ?_
        refine LWp.seq ?_
        refine LWp.x (gs := []) (hs := [.ret (B (decide (indexC (a.ls.take i) x.c ≥ 0)))]) rfl ⟨flaws2_ev a.ls i x hx, trivial⟩ ?_
        refine LWp.ite rfl (fun hb => ?_) (fun hb => ?_)
        · refine LWp.sx (gs := []) (hs := []) rfl trivial ?_
          refine LWp.ret (retT (.inr rfl) (.one (.tmp ?_ rfl)))
          show I _ = I _
          simp only [letterErr, hx, Prev] at hp ⊢
          first | (simp [hb]; done) | simp [hp, hb]
        · refine LWp.skip ?_
          refine LWp.x (gs := []) (hs := []) rfl ⟨by omega, trivial⟩ ?_
          exact ⟨1 + 1, ⟨by omega, by simp only [Prev] at hp ⊢; first | (simp [hb]; done) | simp [hp, hb]⟩, by omega, Ent.el ⟨rfl, rfl, rfl, rfl, rfl, trivial⟩⟩

      · refine LWp.sx (gs := []) (hs := [.cells [I 7, .fn (.func 89) [] [.pi [I b.n]]], .lin]) rfl ⟨⟨by omega, rfl⟩, rfl, ⟨rfl, rfl, rfl, by decide⟩, trivial⟩ ?_
        refine LWp.ent (Ent.freezeLbox (t := 8) rfl) ?_
        refine LWp.seq ?_
        refine LWp.x (gs := []) (hs := [.ret (B (beyondB 0 (2 ^ b.n.toNat - 1) [x.s]))]) rfl ⟨flaws3_ev a.ls i x b.n hx h0 h1, trivial⟩ ?_
        refine LWp.ite rfl (fun hb => ?_) (fun hb => ?_)
        · refine LWp.sx (gs := []) (hs := []) rfl trivial ?_
          refine LWp.ret (retT (.inr rfl) (.one (.tmp ?_ rfl)))
          show I _ = I _
          simp only [letterErr, hx, Prev] at hp ⊢
          first | (simp [hb]; done) | simp [hp, hb]
        · refine LWp.skip ?_
          refine LWp.x (gs := []) (hs := []) rfl ⟨by omega, trivial⟩ ?_
          exact ⟨2 + 1, ⟨by omega, by simp only [Prev] at hp ⊢; first | (simp [hb]; done) | simp [hp, hb]⟩, by omega, Ent.el ⟨rfl, rfl, rfl, rfl, rfl, trivial⟩⟩

      · refine LWp.sx (gs := []) (hs := [.cells [I 2, .fn (.func 90) [] []], .lin]) rfl ⟨⟨by omega, rfl⟩, rfl, ⟨rfl, rfl, rfl, by decide⟩, trivial⟩ ?_
        refine LWp.ent (Ent.freezeLbox (t := 8) rfl) ?_
        refine LWp.seq ?_
        refine LWp.x (gs := []) (hs := [.ret (B (x.s == 0 && !x.q))]) rfl ⟨flaws4_ev a.ls i x hx, trivial⟩ ?_
        refine LWp.ite rfl (fun hb => ?_) (fun hb => ?_)
        · refine LWp.sx (gs := []) (hs := []) rfl trivial ?_
          refine LWp.ret (retT (.inr rfl) (.one (.tmp ?_ rfl)))
          show I _ = I _
          simp only [letterErr, hx, Prev] at hp ⊢
          first | (simp [hb]; done) | simp [hp, hb]
        · refine LWp.skip ?_
          refine LWp.x (gs := []) (hs := []) rfl ⟨by omega, trivial⟩ ?_
          exact ⟨3 + 1, ⟨by omega, by simp only [Prev] at hp ⊢; first | (simp [hb]; done) | simp [hp, hb]⟩, by omega, Ent.el ⟨rfl, rfl, rfl, rfl, rfl, trivial⟩⟩

    · simp only [decide_eq_false_iff_not] at hc
      have : k = 4 := by omega
      subst this
      exact LWp.exit ⟨(), hp, Ent.el trivial⟩
  · intro _ hp
    refine LWp.sx (gs := []) (hs := []) rfl trivial ?_
    refine LWp.ret (retT (.inr rfl) (.one (.tmp ?_ rfl)))
    simp only [letterErr, hx, Prev] at hp ⊢
    obtain ⟨h1, h2, h3, h4⟩ := hp
    rw [h1, h2, h3, h4]; rfl

theorem check11_ev (x a : Alph) : Ev Try.prog 48 [.agg x.enc, .pi a.enc] (B (x.name == a.name)) := by
  refine Ev.intro fn48 ?_
  refine LWp.sx (gs := []) (hs := [.ice]) rfl ⟨⟨rfl, rfl⟩, trivial⟩ ?_
  refine LWp.sx (gs := []) (hs := []) rfl trivial ?_
  refine LWp.ret (retT (.inr rfl) (.one (.tmp ?_ rfl)))
  show B _ = B _
  simp
end Go.Px

namespace Go.Px
open Go.Proofs

structure Alph.wf (a : Alph) : Prop where
  name : a.name.length ≤ 9223372036854775807
  ls : ∀ x ∈ a.ls, x.wf
structure Spelling.wf (s : Spelling) : Prop where
  a0 : -9223372036854775808 ≤ s.a
  a1 : s.a ≤ 9223372036854775807
  t : s.t.length ≤ 9223372036854775807
structure Book.wf (b : Book) : Prop where
  n0 : -9223372036854775808 ≤ b.n
  n1 : b.n ≤ 9223372036854775807
  al : ∀ a ∈ b.al, a.wf
  ss : ∀ s ∈ b.ss, s.wf

def alphErr (b : Book) (i : Nat) : Int := match b.al[i]? with
  | none => 0
  | some a => if nameB a.name = true then (if (b.al.take i).any (fun x => x.name == a.name) = true then 5 else if beyondB 1 6 [(a.ls.length : Int)] = true then 3 else (failF (letterErr b.n a.ls) a.ls.length 0).2) else 6

theorem check1_ev (b : Book) (i : Nat) (a : Alph) (ha : b.al[i]? = some a) (hw : a.wf) (h0 : 0 ≤ b.n) (h1 : b.n < 62) : Ev Try.prog 46 [I i, .agg a.enc, .pi b.enc] (I (alphErr b i)) := by
  have hlt := (List.getElem?_eq_some_iff.1 ha).1
  refine Ev.intro fn46 ?_
  refine LWp.sx (gs := []) (hs := [.ice]) rfl ⟨⟨rfl, rfl⟩, trivial⟩ ?_
  refine LWp.blockX (fun _ : Unit => alphErr b i = (failF (letterErr b.n a.ls) a.ls.length 0).2) (fun _ => el [(2, .pi b.enc), (4, .pi a.enc)]) (fun _ => []) (fun _ => []) ?_ ?_
  · refine LWp.sx (gs := []) (hs := [.ret (B (nameB a.name))]) rfl ⟨name_ev a.name hw.name, trivial⟩ ?_
    refine LWp.ite rfl (fun hc => ?_) (fun hc => ?_)
    · simp only [Bool.not_eq_true'] at hc
      refine LWp.sx (gs := []) (hs := []) rfl trivial ?_
      refine LWp.ret (retT (.inr rfl) (.one (.tmp ?_ rfl)))
      show I _ = I _
      simp [alphErr, ha, hc]
    · simp only [Bool.not_eq_false'] at hc
      refine LWp.sx (gs := []) (hs := [.retS [alphs (b.al.take i), .fn (.func 48) [] [.pi a.enc]] (B ((b.al.take i).any (fun x => x.name == a.name)))]) rfl ⟨⟨⟨trivial, by omega⟩, by simp, by simp; omega⟩, ⟨containsA_ev _ _ _ _ (fun x _ => check11_ev x a), subL_self (by show [AV.sl 2 ((b.al.map Alph.enc).take i), .fn (.func 48) [] [.pi a.enc]] = _; rw [← List.map_take])⟩, trivial⟩ ?_
      refine LWp.ite rfl (fun hd => ?_) (fun hd => ?_)
      · refine LWp.sx (gs := []) (hs := []) rfl trivial ?_
        refine LWp.ret (retT (.inr rfl) (.one (.tmp ?_ rfl)))
        show I _ = I _
        simp only [alphErr, ha, hc, hd, if_true]
      · refine LWp.sx (gs := []) (hs := [.ice, .ret (B (beyondB 1 6 [((a.ls.map Letter.enc).length : Int)]))]) rfl ⟨rfl, beyond_ev 1 6 [((a.ls.map Letter.enc).length : Int)], trivial⟩ ?_
        refine LWp.ite rfl (fun he => ?_) (fun he => ?_) <;> rw [List.length_map] at he
        · refine LWp.sx (gs := []) (hs := []) rfl trivial ?_
          refine LWp.ret (retT (.inr rfl) (.one (.tmp ?_ rfl)))
          show I _ = I _
          simp only [alphErr, ha, hc, hd, he, if_true, if_false, Bool.false_eq_true]
        · refine LWp.skip ⟨(), ?_, Ent.el ⟨rfl, rfl, trivial⟩⟩
          simp only [alphErr, ha, hc, hd, he, if_true, if_false, Bool.false_eq_true]
  · intro _ he
    refine LWp.sx (gs := []) (hs := [.ret (.tup [I (failF (letterErr b.n a.ls) a.ls.length 0).1, I (failF (letterErr b.n a.ls) a.ls.length 0).2])]) rfl ⟨failingL_ev a.ls _ _ _ (fun k x hx => check12_ev b a k x hx (hw.ls x (List.mem_of_getElem? hx)) h0 h1), trivial⟩ ?_
    refine LWp.sx (gs := []) (hs := []) rfl trivial ?_
    refine LWp.ret (retT (.inr rfl) (.one (.tmp ?_ rfl)))
    rw [he]; rfl

def spellErr (b : Book) (i : Nat) : Int := match b.ss[i]? with
  | none => 0
  | some s => if beyondB 0 ((b.al.length : Int) - 1) [s.a] = true then 4 else if beyondB 1 5 [(s.t.length : Int)] = true then 3 else match b.al[s.a.toNat]? with
    | none => 0
    | some a => if s.t.all (fun c => decide (0 ≤ indexC a.ls c.toNat)) = true then 0 else 6

theorem check2_ev (b : Book) (i : Nat) (s : Spelling) (hs : b.ss[i]? = some s) (hw : s.wf) (hal : b.al.length < 100) : Ev Try.prog 53 [I i, .agg s.enc, .pi b.enc] (I (spellErr b i)) := by
  refine Ev.intro fn53 ?_
  have ht := hw.t
  refine LWp.sx (gs := []) (hs := [.ice]) rfl ⟨⟨rfl, rfl⟩, trivial⟩ ?_
  refine LWp.blockX (fun _ : Unit => ∃ a, 0 ≤ s.a ∧ b.al[s.a.toNat]? = some a ∧ spellErr b i = if s.t.all (fun c => decide (0 ≤ indexC a.ls c.toNat)) = true then 0 else 6) (fun _ => el [(2, .pi b.enc), (4, .pi s.enc)]) (fun _ => []) (fun _ => []) ?_ ?_
  · refine LWp.sx (gs := []) (hs := [.ice, .ret (B (beyondB 0 (((b.al.map Alph.enc).length : Int) - 1) [s.a]))]) rfl ⟨by simp; omega, rfl, beyond_ev 0 (((b.al.map Alph.enc).length : Int) - 1) [s.a], trivial⟩ ?_
    refine LWp.ite rfl (fun hc => ?_) (fun hc => ?_) <;> rw [List.length_map] at hc
    · refine LWp.sx (gs := []) (hs := []) rfl trivial ?_
      refine LWp.ret (retT (.inr rfl) (.one (.tmp ?_ rfl)))
      show I _ = I _
      simp only [spellErr, hs, hc, if_true]
    · refine LWp.sx (gs := []) (hs := [.ice, .ret (B (beyondB 1 5 [(s.t.length : Int)]))]) rfl ⟨rfl, beyond_ev 1 5 [(s.t.length : Int)], trivial⟩ ?_
      refine LWp.ite rfl (fun hd => ?_) (fun hd => ?_)
      · refine LWp.sx (gs := []) (hs := []) rfl trivial ?_
        refine LWp.ret (retT (.inr rfl) (.one (.tmp ?_ rfl)))
        show I _ = I _
        simp only [spellErr, hs, hc, hd, if_true, if_false, Bool.false_eq_true]
      · have hc' := hc
        simp only [beyondB, List.any_cons, List.any_nil, Bool.or_false, Bool.or_eq_false_iff, decide_eq_false_iff_not] at hc'
        have hlt : s.a.toNat < b.al.length := by omega
        obtain ⟨a, ha⟩ := ex_get hlt
        refine LWp.skip ⟨(), ⟨a, by omega, ha, ?_⟩, Ent.el ⟨rfl, rfl, trivial⟩⟩
        simp only [spellErr, hs, hc, hd, ha, if_false, Bool.false_eq_true]
  · rintro _ ⟨a, ha0, ha, he⟩
    refine LWp.seq ?_
    refine LWp.sx (gs := []) (hs := []) rfl trivial ?_
    refine LWp.blockT (fun _ : Unit => spellErr b i = 0) (fun _ => el []) (fun _ => []) (fun _ => []) ?_ ?_
    · refine LWp.loopN (fun k : Nat => k ≤ s.t.length ∧ (s.t.all (fun c => decide (0 ≤ indexC a.ls c.toNat)) = (s.t.drop k).all (fun c => decide (0 ≤ indexC a.ls c.toNat)))) (fun k => el [(2, .pi b.enc), (4, .pi s.enc), (24, I s.t.length), (25, I k)]) (fun _ => []) (fun _ => []) (fun k => s.t.length - k) 0 ⟨by omega, rfl⟩
        (Ent.el ⟨rfl, rfl, rfl, rfl, trivial⟩) ?_
      rintro k ⟨hk, hi⟩
      refine LWp.sx (gs := []) (hs := []) rfl trivial ?_
      refine LWp.seq (LWp.ite rfl (fun hc => ?_) (fun hc => ?_))
      · simp only [decide_eq_true_eq, Int.ofNat_lt] at hc
        obtain ⟨c, hx⟩ := ex_get hc
        rw [drop_cons hx, List.all_cons] at hi
        refine LWp.skip (LWp.seq (LWp.block ?_))
        refine LWp.sx (gs := []) (hs := []) rfl trivial ?_
        refine LWp.seq ?_
        refine LWp.dd (gs := []) (hs := [.cells a.enc, .byte c, .ret (I (indexC a.ls c.toNat))]) hmix rfl (by kernel_rfl) ⟨⟨ha0, by simp [ha]⟩, ⟨by omega, by simpa using hx⟩, index_ev a.ls c.toNat, trivial⟩ ?_
        refine LWp.ite rfl (fun hb => ?_) (fun hb => ?_)
        · simp only [decide_eq_true_eq] at hb
          refine LWp.sx (gs := []) (hs := []) rfl trivial ?_
          refine LWp.ret (retT (.inr rfl) (.one (.tmp ?_ rfl)))
          show I _ = I _
          have : decide (0 ≤ indexC a.ls c.toNat) = false := by simp; omega
          rw [he, hi, this]; rfl
        · simp only [decide_eq_false_iff_not] at hb
          refine LWp.skip ?_
          refine LWp.x (gs := []) (hs := []) rfl ⟨by omega, trivial⟩ ?_
          have : decide (0 ≤ indexC a.ls c.toNat) = true := by simp; omega
          exact ⟨k + 1, ⟨hc, by rw [hi, this]; rfl⟩, by omega, Ent.el ⟨rfl, rfl, rfl, rfl, trivial⟩⟩
      · simp only [decide_eq_false_iff_not, Int.ofNat_lt] at hc
        refine LWp.exit ⟨(), ?_, Ent.el trivial⟩
        rw [he, hi, drop_nil hc]; rfl
    · intro _ h
      refine LWp.sx (gs := []) (hs := []) rfl trivial ?_
      refine LWp.ret (retT (.inr rfl) (.one (.tmp ?_ rfl)))
      rw [h]; rfl

/-- The part, the index in it and the error of a book. -/
def check (b : Book) : Int × Int × Int :=
  if beyondB 1 4 [b.n] = true then (1, 0, 7) else if beyondB 1 3 [(b.al.length : Int)] = true then (2, 0, 3) else
  if (failF (alphErr b) b.al.length 0).2 = 0 then
    (if 5 < b.ss.length then (3, 0, 3) else if (failF (spellErr b) b.ss.length 0).2 = 0 then (0, 0, 0) else (3, (failF (spellErr b) b.ss.length 0).1, (failF (spellErr b) b.ss.length 0).2))
  else (2, (failF (alphErr b) b.al.length 0).1, (failF (alphErr b) b.al.length 0).2)

theorem check_ev (b : Book) (hw : b.wf) : Ev Try.prog 17 [.agg b.enc] (.tup [I (check b).1, I (check b).2.1, I (check b).2.2]) := by
  refine Ev.intro fn17 ?_
  refine LWp.sx (gs := []) (hs := [.ice]) rfl ⟨⟨rfl, rfl⟩, trivial⟩ ?_
  have res : ∀ {env : Env} {H : Heap} {p q r : Int}, check b = (p, q, r) → env 2 = I p → env 3 = I q → env 4 = I r → retP Try.prog [.tmp 2, .tmp 3, .tmp 4] (.tup [I (check b).1, I (check b).2.1, I (check b).2.2]) .ret env H [] := by
    intro env H p q r h h2 h3 h4
    rw [h]
    exact retT (.inr rfl) (.many (by decide) ⟨.tmp h2 rfl, .tmp h3 rfl, .tmp h4 rfl, trivial⟩)
  refine LWp.blockX (fun _ : Unit => beyondB 1 4 [b.n] = false ∧ beyondB 1 3 [(b.al.length : Int)] = false) (fun _ => el [(1, .pi b.enc)]) (fun _ => []) (fun _ => []) ?_ ?_
  · refine LWp.sx (gs := []) (hs := [.ice, .ret (B (beyondB 1 4 [b.n]))]) rfl ⟨rfl, beyond_ev 1 4 [b.n], trivial⟩ ?_
    refine LWp.ite rfl (fun hc => ?_) (fun hc => ?_)
    · refine LWp.sx (gs := []) (hs := []) rfl trivial ?_
      exact LWp.ret (res (p := 1) (q := 0) (r := 7) (by simp only [check, hc, if_true]) rfl rfl rfl)
    · refine LWp.sx (gs := []) (hs := [.ice, .ret (B (beyondB 1 3 [((b.al.map Alph.enc).length : Int)]))]) rfl ⟨rfl, beyond_ev 1 3 [((b.al.map Alph.enc).length : Int)], trivial⟩ ?_
      refine LWp.ite rfl (fun hd => ?_) (fun hd => ?_) <;> rw [List.length_map] at hd
      · refine LWp.sx (gs := []) (hs := []) rfl trivial ?_
        exact LWp.ret (res (p := 2) (q := 0) (r := 3) (by simp only [check, hc, hd, if_true, if_false, Bool.false_eq_true]) rfl rfl rfl)
      · exact LWp.skip ⟨(), ⟨hc, hd⟩, Ent.el ⟨rfl, trivial⟩⟩
  rintro _ ⟨hc, hd⟩
  have hc' := hc
  have hd' := hd
  simp only [beyondB, List.any_cons, List.any_nil, Bool.or_false, Bool.or_eq_false_iff, decide_eq_false_iff_not] at hc' hd'
  refine LWp.sx (gs := []) (hs := [.ret (.tup [I (failF (alphErr b) b.al.length 0).1, I (failF (alphErr b) b.al.length 0).2])]) rfl ⟨failingA_ev b.al _ _ _ (fun k a ha => check1_ev b k a ha (hw.al a (List.mem_of_getElem? ha)) (by omega) (by omega)), trivial⟩ ?_
  refine LWp.blockX (fun _ : Unit => (failF (alphErr b) b.al.length 0).2 = 0 ∧ ¬ 5 < b.ss.length) (fun _ => el [(1, .pi b.enc)]) (fun _ => []) (fun _ => []) ?_ ?_
  · refine LWp.sx (gs := []) (hs := []) rfl trivial ?_
    refine LWp.ite rfl (fun he => ?_) (fun he => ?_)
    · simp only [bne_iff_ne, ne_eq] at he
      refine LWp.sx (gs := []) (hs := []) rfl trivial ?_
      exact LWp.ret (res (p := 2) (q := (failF (alphErr b) b.al.length 0).1) (r := (failF (alphErr b) b.al.length 0).2) (by simp only [check, hc, hd, he, if_false, Bool.false_eq_true]) rfl rfl rfl)
    · simp only [bne_eq_false_iff_eq] at he
      refine LWp.sx (gs := []) (hs := []) rfl trivial ?_
      refine LWp.ite rfl (fun hf => ?_) (fun hf => ?_)
      · simp only [List.length_map, decide_eq_true_eq] at hf
        have hf' : 5 < b.ss.length := by omega
        refine LWp.sx (gs := []) (hs := []) rfl trivial ?_
        exact LWp.ret (res (p := 3) (q := 0) (r := 3) (by simp only [check, hc, hd, he, hf', if_true, if_false, Bool.false_eq_true]) rfl rfl rfl)
      · simp only [List.length_map, decide_eq_false_iff_not] at hf
        exact LWp.skip ⟨(), ⟨he, by omega⟩, Ent.el ⟨rfl, trivial⟩⟩
  rintro _ ⟨he, hf⟩
  refine LWp.sx (gs := []) (hs := [.ret (.tup [I (failF (spellErr b) b.ss.length 0).1, I (failF (spellErr b) b.ss.length 0).2])]) rfl ⟨failingS_ev b.ss _ _ _ (fun k s hs => check2_ev b k s hs (hw.ss s (List.mem_of_getElem? hs)) (by omega)), trivial⟩ ?_
  refine LWp.seq (LWp.seq ?_)
  refine LWp.x (gs := []) (hs := []) rfl trivial ?_
  refine LWp.ite rfl (fun hg => ?_) (fun hg => ?_)
  · simp only [bne_iff_ne, ne_eq] at hg
    refine LWp.sx (gs := []) (hs := []) rfl trivial ?_
    exact LWp.ret (res (p := 3) (q := (failF (spellErr b) b.ss.length 0).1) (r := (failF (spellErr b) b.ss.length 0).2) (by simp only [check, hc, hd, he, hf, hg, if_true, if_false, Bool.false_eq_true]) rfl rfl rfl)
  · simp only [bne_eq_false_iff_eq] at hg
    refine LWp.skip ?_
    refine LWp.sx (gs := []) (hs := []) rfl trivial ?_
    exact LWp.ret (res (p := 0) (q := 0) (r := 0) (by simp only [check, hc, hd, he, hf, hg, if_true, if_false, Bool.false_eq_true]) rfl rfl rfl)
end Go.Px

namespace Go.Px
open Go.Proofs

/-- A book that is looked at: behind a pointer. -/
abbrev bp (b : Book) (m : AV) : AV := .pi (b.enc ++ [m])
/-- A spelling of a book, and the letters that it is of. -/
structure SpOK (b : Book) (i : Nat) (s : Spelling) (a : Alph) (xs : List Letter) : Prop where
  hs : b.ss[i]? = some s
  a0 : 0 ≤ s.a
  ha : b.al[s.a.toNat]? = some a
  len : xs.length = s.t.length
  at_ : ∀ (k : Nat) (c : UInt8), s.t[k]? = some c → 0 ≤ indexC a.ls c.toNat ∧ ∃ x, a.ls[(indexC a.ls c.toNat).toNat]? = some x ∧ xs[k]? = some x
  snd : ∀ x ∈ xs, 0 ≤ x.s ∧ x.s < 9223372036854775808
  t5 : s.t.length ≤ 5

section
variable {b : Book} {i : Nat} {s : Spelling} {a : Alph} {xs : List Letter}
theorem SpOK.get (h : SpOK b i s a xs) {k : Nat} {x : Letter} (hx : xs[k]? = some x) : ∃ c, s.t[k]? = some c ∧ 0 ≤ indexC a.ls c.toNat ∧ a.ls[(indexC a.ls c.toNat).toNat]? = some x := by
  have hk : k < s.t.length := by rw [← h.len]; exact (List.getElem?_eq_some_iff.1 hx).1
  obtain ⟨c, hc⟩ := ex_get hk
  obtain ⟨h0, x', h1, h2⟩ := h.at_ k c hc
  rw [hx] at h2; cases h2
  exact ⟨c, hc, h0, h1⟩

theorem can_ev (ok : SpOK b i s a xs) {k : Nat} {x : Letter} (hx : xs[k]? = some x) (m : AV) (n : Int) (hn : 0 ≤ n) (hn2 : n < 64) : Ev Try.prog 105 [bp b m, I i, I k, I n] (B (givesB x.s n)) := by
  obtain ⟨c, hc, h0, h1⟩ := ok.get hx
  obtain ⟨s0, s1⟩ := ok.snd x (List.mem_of_getElem? hx)
  refine Ev.intro fn105 ?_
  refine LWp.sx (gs := []) (hs := []) rfl trivial ?_
  refine LWp.sx (gs := []) (hs := [.cells s.enc, .lin]) rfl ⟨⟨by omega, by simp [ok.hs]⟩, rfl, ⟨rfl, rfl, rfl, by decide⟩, trivial⟩ ?_
  refine LWp.ent (Ent.freezeLbox (t := 9) rfl) ?_
  refine LWp.sd (gs := []) (hs := [.cells a.enc]) hmix rfl (by kernel_rfl) ⟨⟨ok.a0, by simp [ok.ha]⟩, trivial⟩ ?_
  refine LWp.sx (gs := []) (hs := [.byte c, .ret (I (indexC a.ls c.toNat)), .cells x.enc, .ret (B (givesB x.s n))]) rfl ⟨⟨by omega, by simpa using hc⟩, index_ev a.ls c.toNat, ⟨h0, by simp [h1]⟩, gives_ev x n s0 s1 hn hn2, trivial⟩ ?_
  refine LWp.ret (retT (.inr rfl) (.one (.tmp ?_ rfl)))
  rfl
theorem silent_ev (ok : SpOK b i s a xs) {k : Nat} {x : Letter} (hx : xs[k]? = some x) (m : AV) : Ev Try.prog 107 [bp b m, I i, I k] (B x.q) := by
  obtain ⟨c, hc, h0, h1⟩ := ok.get hx
  refine Ev.intro fn107 ?_
  refine LWp.sx (gs := []) (hs := []) rfl trivial ?_
  refine LWp.sx (gs := []) (hs := [.cells s.enc, .lin]) rfl ⟨⟨by omega, by simp [ok.hs]⟩, rfl, ⟨rfl, rfl, rfl, by decide⟩, trivial⟩ ?_
  refine LWp.ent (Ent.freezeLbox (t := 7) rfl) ?_
  refine LWp.sd (gs := []) (hs := [.cells a.enc]) hmix rfl (by kernel_rfl) ⟨⟨ok.a0, by simp [ok.ha]⟩, trivial⟩ ?_
  refine LWp.sx (gs := []) (hs := [.byte c, .ret (I (indexC a.ls c.toNat)), .cells x.enc]) rfl ⟨⟨by omega, by simpa using hc⟩, index_ev a.ls c.toNat, ⟨h0, by simp [h1]⟩, trivial⟩ ?_
  refine LWp.ret (retT (.inr rfl) (.one (.tmp ?_ rfl)))
  rfl
end

/-- The cells of a sound string. -/
abbrev hcs (h : List Int) : List Value := [.int .i64 h.length, .int .i64 (h.getD 0 0), .int .i64 (h.getD 1 0), .int .i64 (h.getD 2 0), .int .i64 (h.getD 3 0), .int .i64 (h.getD 4 0)]
abbrev hcells (h : List Int) : List AV := (hcs h).map .v

/-- All sound strings of some letters, in the order in which they come. -/
def hearL (n : Nat) : List Letter → List Int → List (List Int)
  | [], h => [h]
  | x :: xs, h => (if x.q = true then hearL n xs h else []) ++ ((List.range n).filter (fun (k : Nat) => givesB x.s k)).flatMap (fun (k : Nat) => hearL n xs (h ++ [(k : Int)]))

/-- A sound string that a map may hold. -/
def HOK (h : List Int) : Prop := h.length ≤ 5 ∧ ∀ v ∈ h, 0 ≤ v ∧ v < 64

/-- What the closure 'next' bears. -/
def nextF (b : Book) (i : Nat) (m : AV) (y : AV) (b5 : Nat) : AV := .fn (.func 106) [] [.pi [bp b m], .pi [I i], .pi [y], .po b5 0, .pi [.fn (.func 105) [bp b m] []]]
def nextH (b : Book) (i : Nat) (m : AV) (y : AV) (b5 : Nat) : Nat × HObj := (b5, .cells 148 [nextF b i m y b5])

theorem strings_ev (b : Book) (i : Nat) (m : AV) : Ev Try.prog 102 [bp b m, I i] (.fn (.func 104) [] [.pi [bp b m], .pi [I i]]) := by
  refine Ev.intro fn102 ?_
  refine LWp.sx (gs := []) (hs := [.ice, .ice]) rfl ⟨⟨rfl, rfl⟩, ⟨rfl, rfl⟩, trivial⟩ ?_
  refine LWp.sx (gs := []) (hs := []) rfl trivial ?_
  refine LWp.ret (retT (.inr rfl) (.one (.tmp ?_ rfl)))
  rfl

theorem hearL_len (n : Nat) : ∀ (xs : List Letter) (h g : List Int), g ∈ hearL n xs h → g.length ≤ h.length + xs.length
  | [], h, g, hg => by simp [hearL] at hg; subst hg; simp
  | x :: xs, h, g, hg => by
    simp only [hearL, List.mem_append, List.mem_flatMap] at hg
    rcases hg with hg | ⟨k, _, hg⟩
    · split at hg
      · have := hearL_len n xs h g hg; simp; omega
      · cases hg
    · have := hearL_len n xs _ g hg
      simp at this ⊢; omega

theorem hcells_put (h : List Int) (n : Int) (hl : h.length < 5) : setSeg (hcells h) (0 + 1 + ((h.length : Int).toNat) * 1) [I n] = I h.length :: (hcells (h ++ [n])).tail := by
  match h, hl with
  | [], _ => rfl
  | [_], _ => rfl
  | [_, _], _ => rfl
  | [_, _, _], _ => rfl
  | [_, _, _, _], _ => rfl
theorem hcells_snoc (h : List Int) (n : Int) (hl : h.length < 5) : setSeg (setSeg (hcells h) (1 + h.length * 1) [I n]) 0 [I ((h.length : Int) + 1)] = hcells (h ++ [n]) := by
  match h, hl with
  | [], _ => rfl
  | [_], _ => rfl
  | [_, _], _ => rfl
  | [_, _, _], _ => rfl
  | [_, _, _, _], _ => rfl

abbrev nextEnv (b : Book) (i : Nat) (m : AV) (y : Fn) (b5 k : Nat) (h : List Int) : List (Nat × AV) :=
  [(0, I k), (2, .pi [bp b m]), (3, .pi [I i]), (4, .pi [.fn y [] []]), (5, .po b5 0), (6, .pi [.fn (.func 105) [bp b m] []]), (8, .pi (hcells h))]
section
variable {X : Type} (T : X → Heap) (step : X → List Int → X) (y : Fn) (b : Book) (i : Nat) (s : Spelling) (a : Alph) (xs0 : List Letter) (m : AV)

/-- The closure 'next': all that is to come is handed to 'yield'. -/
theorem next_ev (ok : SpOK b i s a xs0) (hn0 : 0 ≤ b.n) (hn1 : b.n < 60) (hy : ∀ x h, HOK h → EvF Try.prog y [] [.agg (hcells h)] (T x) (fun r Ho => r = B true ∧ Ho = T (step x h))) (b5 : Nat) :
    ∀ (xs : List Letter) (k : Nat) (h : List Int) (x : X), xs0.drop k = xs → k ≤ s.t.length → h.length ≤ k → (∀ v ∈ h, 0 ≤ v ∧ v < 64) →
      EvR Try.prog 106 [I k, .agg (hcells h), .pi [bp b m], .pi [I i], .pi [.fn y [] []], .po b5 0, .pi [.fn (.func 105) [bp b m] []]] (nextH b i m (.fn y [] []) b5 :: T x)
        (fun r Ho => r = B true ∧ Ho = nextH b i m (.fn y [] []) b5 :: T ((hearL b.n.toNat xs h).foldl step x)) := by
  intro xs
  have ht5 := ok.t5
  induction xs with
  | nil =>
    intro k h x hd hk hh hv
    have hlt : k = s.t.length := by
      have := congrArg List.length hd
      simp [ok.len] at this; omega
    refine EvR.intro fn106 ?_
    refine LWp.sx (gs := []) (hs := [.ice]) rfl ⟨⟨rfl, rfl⟩, trivial⟩ ?_
    refine LWp.scope (LWp.seq (LWp.seq ?_))
    refine LWp.dd (gs := []) (hs := [.cells s.enc]) hmix rfl (by kernel_rfl) ⟨⟨by omega, by simp [ok.hs]⟩, trivial⟩ ?_
    refine LWp.ite rfl (fun hc => ?_) (fun hc => ?_)
    · refine LWp.seq (LWp.ops ?_)
      refine WOps.xn (gs := []) (hs := []) 2 rfl rfl trivial ?_
      refine WOps.ent (Ent.perm (List.perm_append_comm (l₁ := [nextH b i m (.fn y [] []) b5]) (l₂ := T x))) ?_
      refine WOps.cons (Op1.callvR (Hin := T x) (H0 := [nextH b i m (.fn y [] []) b5]) rfl (hy x h ⟨by omega, hv⟩) rfl rfl (SubL.refl _) rfl ?_)
      rintro res Hout ⟨rfl, rfl⟩
      refine WOps.ent (Ent.perm (List.perm_append_comm (l₁ := T (step x h)) (l₂ := [nextH b i m (.fn y [] []) b5]))) ?_
      refine WOps.xd (gs := []) (hs := []) rfl trivial ?_
      refine LWp.ret ⟨.inr rfl, _, _, _, rfl, .one (.tmp rfl rfl), ⟨rfl, ?_⟩, List.Sublist.refl _⟩
      rfl
    · exfalso
      subst hlt
      have hc : ((s.t.length : Int) == (s.t.length : Int)) = false := hc
      simp at hc
  | cons z xs ih =>
    intro k h x hd hk hh hv
    have hz : xs0[k]? = some z := by
      have := congrArg (fun l => l[0]?) hd
      simpa using this
    have hd' : xs0.drop (k + 1) = xs := by
      have := drop_cons hz
      rw [hd] at this
      exact (List.cons.inj this).2.symm
    have hkl : k < s.t.length := by rw [← ok.len]; exact (List.getElem?_eq_some_iff.1 hz).1
    refine EvR.intro fn106 ?_
    refine LWp.sx (gs := []) (hs := [.ice]) rfl ⟨⟨rfl, rfl⟩, trivial⟩ ?_
    refine LWp.scope (LWp.seq (LWp.seq ?_))
    refine LWp.dd (gs := []) (hs := [.cells s.enc]) hmix rfl (by kernel_rfl) ⟨⟨by omega, by simp [ok.hs]⟩, trivial⟩ ?_
    refine LWp.ite rfl (fun hc => ?_) (fun hc => ?_)
    · exfalso
      have hc : ((k : Int) == (s.t.length : Int)) = true := hc
      simp at hc
      omega
    refine LWp.skip ?_
    refine LWp.cutX (fun _ : Unit => True) (fun _ => el (nextEnv b i m y b5 k h)) (fun _ => nextH b i m (.fn y [] []) b5 :: T ((if z.q = true then hearL b.n.toNat xs h else []).foldl step x)) (fun _ => []) ?_ ?_
    · cases hq : z.q with
      | true =>
        refine LWp.seq (LWp.ops ?_)
        refine WOps.xn (gs := [(31, true)]) (hs := [.ret (B z.q), .at 0]) 9 rfl rfl ⟨silent_ev ok hz m, ⟨hq, rfl⟩, hq, ⟨hq, by omega⟩, hq, trivial⟩ ?_
        refine WOps.yes (by show B z.q = B true; rw [hq]) ?_
        refine Op1.callvR (Hin := nextH b i m (.fn y [] []) b5 :: T x) (H0 := []) rfl (ih (k + 1) h x hd' (by omega) (by omega) hv) rfl rfl (SubL.refl _) (by simp) ?_
        rintro res Hout ⟨rfl, rfl⟩
        refine WOps.xd (gs := [(31, true)]) (hs := []) rfl ⟨hq, hq, trivial⟩ ?_
        refine LWp.ite (b := false) rfl (fun h => by cases h) (fun _ => LWp.skip ?_)
        refine ⟨(), trivial, Ent.trans (Ent.ofH ?_) (Ent.el ⟨rfl, rfl, rfl, rfl, rfl, rfl, rfl, trivial⟩)⟩
        simp
      | false =>
        refine LWp.seq ?_
        refine LWp.x (gs := [(31, false)]) (hs := [.ret (B z.q)]) rfl ⟨silent_ev ok hz m, hq, hq, hq, hq, hq, hq, hq, trivial⟩ ?_
        refine LWp.ite (b := false) rfl (fun h => by cases h) (fun _ => LWp.skip ?_)
        refine ⟨(), trivial, Ent.trans (Ent.ofH ?_) (Ent.el ⟨rfl, rfl, rfl, rfl, rfl, rfl, rfl, trivial⟩)⟩
        simp
    intro _ _
    refine LWp.seq (LWp.label (LWp.seq (LWp.seq ?_)))
    refine LWp.x (gs := []) (hs := []) rfl trivial ?_
    generalize hx1 : (if z.q = true then hearL b.n.toNat xs h else []).foldl step x = x1
    have hgo : ∀ j : Nat, ((List.range (j + 1)).filter (fun (k : Nat) => givesB z.s k)).flatMap (fun (k : Nat) => hearL b.n.toNat xs (h ++ [(k : Int)])) =
        ((List.range j).filter (fun (k : Nat) => givesB z.s k)).flatMap (fun (k : Nat) => hearL b.n.toNat xs (h ++ [(k : Int)])) ++ (if givesB z.s j = true then hearL b.n.toNat xs (h ++ [(j : Int)]) else []) := by
      intro j
      rw [List.range_succ, List.filter_append, List.flatMap_append]
      congr 1
      cases hg : givesB z.s j <;> simp [hg]
    refine LWp.blockT (fun _ : Unit => True) (fun _ => el []) (fun _ => nextH b i m (.fn y [] []) b5 :: T ((hearL b.n.toNat (z :: xs) h).foldl step x)) (fun _ => []) ?_ ?_
    · refine LWp.loopN (fun j : Nat => j ≤ b.n.toNat) (fun j => el ((43, I b.n) :: (44, I j) :: nextEnv b i m y b5 k h))
        (fun j => nextH b i m (.fn y [] []) b5 :: T ((((List.range j).filter (fun (k : Nat) => givesB z.s k)).flatMap (fun (k : Nat) => hearL b.n.toNat xs (h ++ [(k : Int)]))).foldl step x1)) (fun _ => []) (fun j => b.n.toNat - j) 0 (by omega)
        (Ent.el ⟨rfl, rfl, rfl, rfl, rfl, rfl, rfl, rfl, rfl, trivial⟩) ?_
      intro j hj
      generalize hxj : (((List.range j).filter (fun (k : Nat) => givesB z.s k)).flatMap (fun (k : Nat) => hearL b.n.toNat xs (h ++ [(k : Int)]))).foldl step x1 = xj
      refine LWp.sx (gs := []) (hs := []) rfl trivial ?_
      refine LWp.seq (LWp.ite rfl (fun hc => ?_) (fun hc => ?_))
      · simp only [decide_eq_true_eq] at hc
        have hjl : j < b.n.toNat := by omega
        refine LWp.skip (LWp.seq (LWp.block ?_))
        refine LWp.sx (gs := []) (hs := []) rfl trivial ?_
        refine LWp.seq (LWp.seq ?_)
        refine LWp.x (gs := []) (hs := [.ret (B (givesB z.s j))]) rfl ⟨can_ev ok hz m j (by omega) (by omega), trivial⟩ ?_
        refine LWp.ite rfl (fun hb => ?_) (fun hb => ?_)
        · simp only [Bool.not_eq_true'] at hb
          refine LWp.exit ?_
          refine LWp.x (gs := []) (hs := []) rfl ⟨by omega, trivial⟩ ?_
          refine ⟨j + 1, hjl, by omega, Ent.trans (Ent.ofH ?_) (Ent.el ⟨rfl, rfl, rfl, rfl, rfl, rfl, rfl, rfl, rfl, trivial⟩)⟩
          rw [hgo, hb, ← hxj]; simp
        · simp only [Bool.not_eq_false'] at hb
          refine LWp.skip ?_
          refine LWp.sx (gs := []) (hs := [.lin]) rfl ⟨rfl, ⟨rfl, rfl, rfl, by decide⟩, trivial⟩ ?_
          refine LWp.shareB (t := 11) rfl (fun b11 => ?_)
          refine LWp.seq (LWp.ops ?_)
          refine WOps.xn (gs := []) (hs := []) 5 rfl rfl ⟨⟨by omega, by simp; omega⟩, trivial⟩ ?_
          refine WOps.cons (Op1.storeO (i := 0) rfl rfl rfl rfl rfl rfl (by show 0 + 1 + ((h.length : Int).toNat) * 1 + 1 ≤ 6; omega) ?_)
          refine WOps.ent (Ent.ofH (H' := (b11, .cells 99 (I h.length :: (hcells (h ++ [(j : Int)])).tail)) :: nextH b i m (.fn y [] []) b5 :: T xj) ?_) ?_
          · rw [← hcells_put h j (by omega)]; rfl
          refine WOps.xd (gs := []) (hs := []) rfl trivial ?_
          refine LWp.seq (LWp.ops ?_)
          refine WOps.xn (gs := []) (hs := [.at 0]) 4 rfl rfl ⟨rfl, ⟨by omega, by omega⟩, trivial⟩ ?_
          refine WOps.cons (Op1.storeO (i := 0) rfl rfl rfl rfl rfl rfl (by simp) ?_)
          refine WOps.ent (Ent.ofH (H' := (b11, .cells 99 (hcells (h ++ [(j : Int)]))) :: nextH b i m (.fn y [] []) b5 :: T xj) ?_) ?_
          · have e : (((h ++ [(j : Int)]).length : Nat) : Int) = (h.length : Int) + 1 := by simp
            show (b11, HObj.cells 99 (I ((h.length : Int) + 1) :: (hcells (h ++ [(j : Int)])).tail)) :: _ = _
            rw [← e]; rfl
          refine WOps.ent (Ent.freezeBox (i := 0) 11 rfl rfl) ?_
          refine WOps.xd (gs := []) (hs := []) rfl trivial ?_
          refine LWp.seq (LWp.ops ?_)
          refine WOps.xn (gs := []) (hs := [.at 0]) 4 rfl rfl ⟨rfl, by omega, trivial⟩ ?_
          refine WOps.cons (Op1.callvR (Hin := nextH b i m (.fn y [] []) b5 :: T xj) (H0 := []) rfl (ih (k + 1) (h ++ [(j : Int)]) xj hd' (by omega) (by simp; omega) (fun v hm => by
            rcases List.mem_append.1 hm with hm | hm
            · exact hv v hm
            · simp only [List.mem_singleton] at hm; omega)) rfl rfl (SubL.refl _) (by simp) ?_)
          rintro res Hout ⟨rfl, rfl⟩
          refine WOps.xd (gs := []) (hs := []) rfl trivial ?_
          refine LWp.ite (b := false) rfl (fun h => by cases h) (fun _ => LWp.skip ?_)
          refine LWp.x (gs := []) (hs := []) rfl ⟨by omega, trivial⟩ ?_
          refine ⟨j + 1, hjl, by omega, Ent.trans (Ent.ofH ?_) (Ent.el ⟨rfl, rfl, rfl, rfl, rfl, rfl, rfl, rfl, rfl, trivial⟩)⟩
          rw [hgo, hb, List.foldl_append, hxj]; simp
      · simp only [decide_eq_false_iff_not] at hc
        have hjn : j = b.n.toNat := by omega
        refine LWp.exit ⟨(), trivial, Ent.trans (Ent.ofH ?_) (Ent.el trivial)⟩
        subst hjn
        rw [← hxj, ← hx1, ← List.foldl_append]; rfl
    · intro _ _
      refine LWp.sx (gs := []) (hs := []) rfl trivial ?_
      refine LWp.ret ⟨.inr rfl, _, _, _, rfl, .one (.tmp rfl rfl), ⟨rfl, rfl⟩, List.Sublist.refl _⟩

theorem strings1_ev (ok : SpOK b i s a xs0) (hn0 : 0 ≤ b.n) (hn1 : b.n < 60) (hy : ∀ x h, HOK h → EvF Try.prog y [] [.agg (hcells h)] (T x) (fun r Ho => r = B true ∧ Ho = T (step x h))) (x : X) :
    EvR Try.prog 104 [.fn y [] [], .pi [bp b m], .pi [I i]] (T x) (fun _ Ho => Ho = T ((hearL b.n.toNat xs0 []).foldl step x)) := by
  refine EvR.intro fn104 ?_
  refine LWp.sx (gs := []) (hs := [.ice]) rfl ⟨⟨rfl, rfl⟩, trivial⟩ ?_
  refine LWp.sx (gs := []) (hs := [.lin]) rfl ⟨rfl, ⟨rfl, rfl, rfl, by decide⟩, trivial⟩ ?_
  refine LWp.ent (Ent.freezeLbox (t := 4) rfl) ?_
  refine LWp.seq (LWp.ops (WOps.cons (Op1.alloc rfl (fun b5 => ?_))))
  refine WOps.xd (gs := []) (hs := []) rfl trivial ?_
  refine LWp.seq (LWp.ops ?_)
  refine WOps.xn (gs := []) (hs := []) 1 rfl rfl trivial ?_
  refine WOps.cons (Op1.storeO (i := 0) rfl rfl rfl rfl rfl rfl (by decide) ?_)
  refine WOps.xd (gs := []) (hs := []) rfl trivial ?_
  refine LWp.ops ?_
  refine WOps.xn (gs := []) (hs := [.at 0]) 2 rfl rfl ⟨rfl, trivial⟩ ?_
  refine WOps.cons (Op1.callvR (Hin := nextH b i m (.fn y [] []) b5 :: T x) (H0 := []) rfl (next_ev T step y b i s a xs0 m ok hn0 hn1 hy b5 xs0 0 [] x rfl (by omega) (by simp) (by simp)) rfl rfl (SubL.refl _) (by simp only [List.append_nil]; rfl) ?_)
  rintro res Hout ⟨rfl, rfl⟩
  refine WOps.xd (gs := []) (hs := []) rfl trivial ?_
  refine ⟨.inl rfl, _, .tup [], _, rfl, .many (by decide) trivial, rfl, ?_⟩
  simp only [List.append_nil]
  exact List.sublist_cons_self _ _
end
end Go.Px

namespace Go.Px
open Go.Proofs

theorem hK : KeyOK Try.prog 99 (WideKey Try.prog 5 99) := KeyOK.wide (m := 5) (by decide) (by kernel_rfl) (by kernel_rfl) (by kernel_rfl)
theorem wideV (c0 c1 c2 c3 c4 c5 : Int) (h0 : (Lit.int .i64 c0).wf = true) (h1 : (Lit.int .i64 c1).wf = true) (h2 : (Lit.int .i64 c2).wf = true) (h3 : (Lit.int .i64 c3).wf = true) (h4 : (Lit.int .i64 c4).wf = true) (h5 : (Lit.int .i64 c5).wf = true) :
    WideKey Try.prog 5 99 (.agg #[.int .i64 c0, .int .i64 c1, .int .i64 c2, .int .i64 c3, .int .i64 c4, .int .i64 c5]) := by
  have e99 : Try.prog.cellsOf 99 = 6 := by kernel_rfl
  have e97 : Try.prog.cellsOf 97 = 5 := by kernel_rfl
  have e3 : Try.prog.cellsOf 3 = 1 := by kernel_rfl
  refine ⟨?_, [.int .i64 c0, .int .i64 c1, .int .i64 c2, .int .i64 c3, .int .i64 c4, .int .i64 c5], ?_⟩
  · simp [Value.formed, Try.underlying99, e99]
  · simp [Value.cells, Program.keyLits, Try.underlying99, Try.underlying97, Try.underlying3, e99, e97, e3, h0, h1, h2, h3, h4, h5, List.range_succ]

abbrev hval (h : List Int) : Value := .agg #[.int .i64 h.length, .int .i64 (h.getD 0 0), .int .i64 (h.getD 1 0), .int .i64 (h.getD 2 0), .int .i64 (h.getD 3 0), .int .i64 (h.getD 4 0)]
theorem wf_of {n : Int} (h0 : 0 ≤ n) (h1 : n < 64) : (Lit.int .i64 n).wf = true := by
  have e1 : IntKind.i64.min = -9223372036854775808 := rfl
  have e2 : IntKind.i64.max = 9223372036854775807 := rfl
  simp [Lit.wf]
  omega
theorem HOK.get {h : List Int} (hh : HOK h) (k : Nat) : 0 ≤ h.getD k 0 ∧ h.getD k 0 < 64 := by
  rw [List.getD_eq_getElem?_getD]
  cases he : h[k]? with
  | none => simp
  | some v => simpa using hh.2 v (List.mem_of_getElem? he)
theorem HOK.wide {h : List Int} (hh : HOK h) : WideKey Try.prog 5 99 (hval h) :=
  wideV _ _ _ _ _ _ (wf_of (by omega) (by have := hh.1; omega)) (wf_of (hh.get 0).1 (hh.get 0).2) (wf_of (hh.get 1).1 (hh.get 1).2) (wf_of (hh.get 2).1 (hh.get 2).2) (wf_of (hh.get 3).1 (hh.get 3).2) (wf_of (hh.get 4).1 (hh.get 4).2)

theorem hval_inj {h g : List Int} (hh : h.length ≤ 5) (e : hval h = hval g) : h = g := by
  simp only [hval, Value.agg.injEq, Array.mk.injEq, List.cons.injEq, Value.int.injEq, true_and, Int.natCast_inj, and_true] at e
  obtain ⟨e0, e1, e2, e3, e4, e5⟩ := e
  apply List.ext_getElem?
  intro k
  have key : h.getD k 0 = g.getD k 0 ∨ h.length ≤ k := by
    match k with
    | 0 => exact .inl e1
    | 1 => exact .inl e2
    | 2 => exact .inl e3
    | 3 => exact .inl e4
    | 4 => exact .inl e5
    | k + 5 => exact .inr (by omega)
  by_cases hk : k < h.length
  · rcases key with key | key
    · have hg : k < g.length := by omega
      rw [List.getD_eq_getElem?_getD, List.getD_eq_getElem?_getD, List.getElem?_eq_getElem hk, List.getElem?_eq_getElem hg] at key
      rw [List.getElem?_eq_getElem hk, List.getElem?_eq_getElem hg]
      simpa using key
    · omega
  · rw [List.getElem?_eq_none (by omega), List.getElem?_eq_none (by omega)]

abbrev Kn := List (List Int × Nat)
def kfind : Kn → List Int → Option (Nat × Nat)
  | [], _ => none
  | (g, u) :: es, h => if g = h then some (0, u) else (kfind es h).map fun p => (p.1 + 1, p.2)
def kput (es : Kn) (h : List Int) (bit : Nat) : Kn := match kfind es h with
  | none => es ++ [(h, bit)]
  | some (j, u) => es.set j (h, u ||| bit)
def encK (es : Kn) : List (Value × AV) := es.map fun e => (hval e.1, I e.2)
def KOK (es : Kn) : Prop := ∀ e ∈ es, HOK e.1 ∧ e.2 < 32

theorem kfind_spec : ∀ (es : Kn) (h : List Int), match kfind es h with
    | none => ∀ e ∈ es, e.1 ≠ h
    | some (j, u) => es[j]? = some (h, u)
  | [], h => by simp [kfind]
  | (g, u) :: es, h => by
    have ih := kfind_spec es h
    by_cases hg : g = h
    · simp [kfind, hg]
    · simp only [kfind, if_neg hg]
      cases hk : kfind es h with
      | none =>
        rw [hk] at ih
        simpa [hg] using ih
      | some p =>
        obtain ⟨j, v⟩ := p
        rw [hk] at ih
        simpa using ih
theorem kmat {es : Kn} (hk : KOK es) {h : List Int} : MAt (encK es) (hval h) ((kfind es h).map fun p => (p.1, I p.2)) := by
  have hs := kfind_spec es h
  cases hf : kfind es h with
  | none =>
    rw [hf] at hs
    refine .none ?_
    intro e he
    obtain ⟨x, hx, rfl⟩ := List.mem_map.1 he
    exact fun e => hs x hx (hval_inj (hk x hx).1.1 e)
  | some p =>
    obtain ⟨j, u⟩ := p
    rw [hf] at hs
    refine .some ?_
    show (es.map fun e => (hval e.1, I e.2))[j]? = _
    rw [List.getElem?_map, hs]; rfl
theorem kput_ok {es : Kn} (hk : KOK es) {h : List Int} (hh : HOK h) {bit : Nat} (hb : bit < 32) : KOK (kput es h bit) := by
  have hs := kfind_spec es h
  intro e he
  unfold kput at he
  cases hf : kfind es h with
  | none =>
    rw [hf] at he
    rcases List.mem_append.1 he with he | he
    · exact hk e he
    · simp only [List.mem_singleton] at he; subst he; exact ⟨hh, hb⟩
  | some p =>
    obtain ⟨j, u⟩ := p
    rw [hf] at he hs
    rcases List.mem_or_eq_of_mem_set he with he | rfl
    · exact hk e he
    · exact ⟨hh, Nat.or_lt_two_pow (n := 5) (hk _ (List.mem_of_getElem? hs)).2 hb⟩
end Go.Px

namespace Go.Px
open Go.Proofs

theorem el_nl {env : Env} : ∀ {l : List (Nat × AV)}, ElOK env l → l.all (fun p => !p.2.isLin) = true → ∀ t, el l t = .any ∨ (el l t = env t ∧ (env t).isLin = false)
  | [], _, _, t => .inl rfl
  | (u, p) :: l, h, hl, t => by
    simp only [List.all_cons, Bool.and_eq_true, Bool.not_eq_true'] at hl
    simp only [el]
    cases hb : Nat.beq t u with
    | true =>
      have := Nat.eq_of_beq_eq_true hb
      subst this
      exact .inr ⟨h.1.symm, by rw [h.1]; exact hl.1⟩
    | false => exact el_nl h.2 hl.2 t

theorem zeroI : (Try.prog.info? 3).bind (·.zero) = some (.int .i64 0) := by kernel_rfl

/-- What is in the map at a key. -/
def kval (es : Kn) (h : List Int) : Nat := match kfind es h with | none => 0 | some (_, u) => u
def kat (es : Kn) (h : List Int) : Option (Nat × AV) := (kfind es h).map fun p => (p.1, I p.2)
theorem kat_val (es : Kn) (h : List Int) : lkRes false (cv (.int .i64 0)) (kat es h) = I (kval es h) := by
  unfold kat kval
  cases kfind es h <;> rfl
/-- The entries when the one at the key is there. -/
def kmid (es : Kn) (h : List Int) : Kn := match kfind es h with | none => es ++ [(h, 0)] | some _ => es
theorem kmid_enc (es : Kn) (h : List Int) : mput (encK es) (hval h) (I (kval es h)) (kat es h) = encK (kmid es h) := by
  unfold kat kval kmid
  have hs := kfind_spec es h
  cases hf : kfind es h with
  | none => simp [mput, encK]
  | some p =>
    obtain ⟨j, u⟩ := p
    rw [hf] at hs
    simp only [Option.map_some, mput]
    apply List.ext_getElem?
    intro n
    rw [List.getElem?_set]
    have hlt : j < (encK es).length := by
      have := (List.getElem?_eq_some_iff.1 hs).1
      simpa [encK] using this
    split
    · rename_i e; subst e
      show _ = (es.map _)[j]?
      rw [List.getElem?_map, hs]; rfl
    · rfl
def kpos (es : Kn) (h : List Int) : Nat := match kfind es h with | none => es.length | some (j, _) => j
theorem kpos_eq (es : Kn) (h : List Int) : mpos (encK es) (kat es h) = kpos es h := by
  unfold kat kpos
  cases kfind es h <;> simp [mpos, encK]
theorem kmid_at (es : Kn) (h : List Int) : (encK (kmid es h))[kpos es h]? = some (hval h, I (kval es h)) := by
  unfold kmid kpos kval
  have hs := kfind_spec es h
  cases hf : kfind es h with
  | none => simp [encK]
  | some p =>
    obtain ⟨j, u⟩ := p
    rw [hf] at hs
    show (es.map _)[j]? = _
    rw [List.getElem?_map, hs]; rfl
theorem kput_enc (es : Kn) (h : List Int) (bit : Nat) : (encK (kmid es h)).set (kpos es h) (hval h, I ((kval es h ||| bit : Nat) : Int)) = encK (kput es h bit) := by
  unfold kmid kpos kval kput
  cases hf : kfind es h with
  | none => simp [encK]
  | some p =>
    obtain ⟨j, u⟩ := p
    show (es.map _).set j _ = (es.set j _).map _
    rw [List.map_set]
theorem kmid_ok {es : Kn} (hk : KOK es) {h : List Int} (hh : HOK h) : KOK (kmid es h) := by
  unfold kmid
  cases kfind es h with
  | none =>
    intro e he
    rcases List.mem_append.1 he with he | he
    · exact hk e he
    · simp only [List.mem_singleton] at he; subst he; exact ⟨hh, by omega⟩
  | some p => exact hk
theorem KOK.ks {es : Kn} (hk : KOK es) : ∀ e ∈ encK es, WideKey Try.prog 5 99 e.1 := by
  intro e he
  obtain ⟨x, hx, rfl⟩ := List.mem_map.1 he
  exact (hk x hx).1.wide
theorem kval_lt {es : Kn} (hk : KOK es) (h : List Int) : kval es h < 32 := by
  have hs := kfind_spec es h
  unfold kval
  cases hf : kfind es h with
  | none => simp
  | some p =>
    obtain ⟨j, u⟩ := p
    rw [hf] at hs
    exact (hk _ (List.mem_of_getElem? hs)).2

/-- One round of 'look': a sound string more that a spelling can be. -/
theorem look_body (b : Book) (i : Nat) (hi : i < 5) (bm l : Nat) (es : Kn) (hk : KOK es) (h : List Int) (hh : HOK h) (Q : Post)
    (hQ : ∀ env, Q .normal env [(bm, .map (encK (kput es h (2 ^ i))))] []) (env : Env) (he : ElOK env [(3, .pi [bp b (.mo bm)]), (4, .pi [I i]), (5, .pi (hcells h))]) :
    LWp Try.prog (some l) 33 (.dops [(⟨some 20, none, .load 94 (tm 3) none⟩, []), (⟨some 21, none, .nilck (tm 20)⟩, [0]), (⟨some 22, none, .faddr 112 (tm 21) 1 3⟩, [1]), (⟨some 23, none, .load 110 (tm 22) none⟩, [2]),
      (⟨some 24, none, .load 99 (tm 5) (some 6)⟩, []), (⟨some 25, none, .lookup 110 (tm 23) (tm 24) false 99 3 [.int .i64 0]⟩, [3, 4]), (⟨some 26, none, .load 3 (tm 4) none⟩, []), (⟨some 27, none, .bin .shl 3 (kc 1) (tm 26)⟩, [6]),
      (⟨some 28, none, .bin .or 3 (tm 25) (tm 27)⟩, [5, 7]), (⟨some 29, none, .mapent 110 (tm 23) (tm 24) 99 3 [.int .i64 0]⟩, [3, 4, 0, 1, 2, 3, 4, 6, 7]), (⟨some 30, none, .extract (tm 29) 1⟩, [9]),
      (⟨none, none, .entst 110 (tm 23) (tm 30) (tm 28)⟩, [3, 10, 8, 9, 0, 1, 2, 3, 4, 5, 6, 7, 8, 9, 10])]) Q env [(bm, .map (encK es))] [] := by
  have hp : (2 : Int) ^ i ≤ 2305843009213693952 := pow2_le (k := i) (by omega)
  have hp0 : (0 : Int) < 2 ^ i := Int.pow_pos (by omega)
  have hkv := kval_lt hk h
  have hl0 : ∀ env0 : Env, env0 23 = .mo bm → valOf (env0 24) = some (hval h) → Q1 Try.prog (some l) 33 (.lookup 110 (tm 23) (tm 24) false 99 3 [.int .i64 0]) (some 25) env0 [(bm, .map (encK es))] [] [(25, I (kval es h))] := by
    intro env0 h1 h2
    exact Op1.lookupO (n := 0) hK zeroI h1 rfl h2 hh.wide hk.ks (kmat hk) ⟨by show updO _ _ (lkRes false _ (kat es h)) = _; rw [kat_val]; rfl, rfl, rfl⟩
  have hl1 : ∀ env0 : Env, env0 23 = .mo bm → valOf (env0 24) = some (hval h) → Q1 Try.prog (some l) 33 (.lookup 110 (tm 23) (tm 24) false 99 3 [.int .i64 0]) (some 25) env0 [(bm, .map (encK (kmid es h)))] [] [(25, I (kval es h))] := by
    intro env0 h1 h2
    exact Op1.lookupO (n := 0) hK zeroI h1 rfl h2 hh.wide (kmid_ok hk hh).ks (.some (kmid_at es h)) ⟨rfl, rfl, rfl⟩
  have hent : ∀ env0 : Env, env0 23 = .mo bm → valOf (env0 24) = some (hval h) → Q1g Try.prog (some l) 33 (.mapent 110 (tm 23) (tm 24) 99 3 [.int .i64 0]) (some 29) env0 [(bm, .map (encK es))] [(bm, .map (encK (kmid es h)))] [] [(29, .tup [I (kval es h), I (kpos es h)])] := by
    intro env0 h1 h2
    refine Op1.mapent (n := 0) hK zeroI h1 rfl h2 hh.wide hk.ks (kmat hk) ?_
    have e1 := kat_val es h
    unfold kat at e1
    have e2 := kpos_eq es h
    unfold kat at e2
    have e3 := kmid_enc es h
    unfold kat at e3
    rw [e1, e2, e3]
    exact ⟨rfl, rfl, rfl⟩
  refine LWp.ent (Ent.el he) ?_
  refine LWp.dopsC (q := 9) (H1 := [(bm, .map (encK (kmid es h)))]) hmix
    (.x [] (by decide) rfl rfl rfl trivial trivial <| .x [] (by decide) rfl rfl rfl trivial trivial <| .x [] (by decide) rfl rfl rfl trivial trivial <| .x [] (by decide) rfl rfl rfl trivial trivial <| .x [] (by decide) rfl rfl rfl trivial trivial <|
      .cons [25, 23, 24] true true (by decide) (fun _ => hl0 _ rfl rfl) (fun _ => hl1 _ rfl rfl) rfl rfl <|
      .x [] (by decide) rfl rfl rfl trivial trivial <| .x [] (by decide) rfl rfl rfl ⟨by omega, by omega, by omega, by show (1 : Int) * 2 ^ i < _; omega⟩ ⟨by omega, by omega, by omega, by show (1 : Int) * 2 ^ i < _; omega⟩ <|
      .x [] (by decide) rfl rfl rfl ⟨⟨by omega, by omega⟩, by show 0 ≤ (1 : Int) * 2 ^ i; omega, by show (1 : Int) * 2 ^ i < _; omega⟩ ⟨⟨by omega, by omega⟩, by show 0 ≤ (1 : Int) * 2 ^ i; omega, by show (1 : Int) * 2 ^ i < _; omega⟩ <|
      .chg [29, 23, 24] rfl ⟨rfl, rfl, hent _ rfl rfl⟩ rfl rfl <| .x [] (by decide) rfl rfl rfl trivial trivial <| .nil) (by kernel_rfl) ?_
  refine WOps.cons (Op1.entst (n := 0) rfl rfl rfl (kmid_at es h) rfl rfl ?_)
  refine WOps.nil ?_
  have e1 : ((1 : Int) * 2 ^ ((i : Nat) : Int).toNat).toNat = 2 ^ i := by
    have : (1 : Int) * 2 ^ ((i : Nat) : Int).toNat = ((2 ^ i : Nat) : Int) := by simp
    rw [this]; rfl
  have e2 : (encK (kmid es h)).set (kpos es h) (hval h, I ((kval es h ||| ((1 : Int) * 2 ^ ((i : Nat) : Int).toNat).toNat : Nat) : Int)) = encK (kput es h (2 ^ i)) := by
    rw [e1]; exact kput_enc es h (2 ^ i)
  have e3 := hQ
  rw [← e2] at e3
  exact e3 _
end Go.Px

namespace Go.Px
open Go.Proofs

/-- All that is known behind the spellings from i on. -/
def knownF (n : Nat) : List (List Letter) → Nat → Kn → Kn
  | [], _, es => es
  | xs :: sps, i, es => knownF n sps (i + 1) ((hearL n xs []).foldl (fun es h => kput es h (2 ^ i)) es)

structure BookOK (b : Book) (sps : List (List Letter)) : Prop where
  n0 : 0 ≤ b.n
  n1 : b.n < 60
  len : sps.length = b.ss.length
  five : sps.length ≤ 5
  sp : ∀ (i : Nat) xs, sps[i]? = some xs → ∃ s a, SpOK b i s a xs

theorem hearL_HOK {n : Nat} (hn : n ≤ 64) : ∀ (xs : List Letter) (h g : List Int), g ∈ hearL n xs h → (∀ v ∈ h, 0 ≤ v ∧ v < 64) → ∀ v ∈ g, 0 ≤ v ∧ v < 64
  | [], h, g, hg, hh => by simp [hearL] at hg; subst hg; exact hh
  | x :: xs, h, g, hg, hh => by
    simp only [hearL, List.mem_append, List.mem_flatMap] at hg
    rcases hg with hg | ⟨k, hk, hg⟩
    · split at hg
      · exact hearL_HOK hn xs h g hg hh
      · cases hg
    · refine hearL_HOK hn xs _ g hg ?_
      intro v hv
      rcases List.mem_append.1 hv with hv | hv
      · exact hh v hv
      · simp only [List.mem_singleton] at hv
        have := List.mem_range.1 (List.mem_filter.1 hk).1
        omega

abbrev KX := { es : Kn // KOK es }
open Classical in
noncomputable def stepX (i : Nat) (hi : i < 5) (x : KX) (h : List Int) : KX := if hh : HOK h then ⟨kput x.1 h (2 ^ i), kput_ok x.2 hh (by
  have : 2 ^ i ≤ 2 ^ 4 := Nat.pow_le_pow_right (by omega) (by omega)
  omega)⟩ else x
theorem stepX_val {i : Nat} {hi : i < 5} {x : KX} {h : List Int} (hh : HOK h) : (stepX i hi x h).1 = kput x.1 h (2 ^ i) := by
  unfold stepX
  rw [dif_pos hh]
theorem foldX {i : Nat} {hi : i < 5} : ∀ (l : List (List Int)) (x : KX), (∀ h ∈ l, HOK h) → (l.foldl (stepX i hi) x).1 = l.foldl (fun es h => kput es h (2 ^ i)) x.1
  | [], x, _ => rfl
  | h :: l, x, hl => by
    simp only [List.foldl_cons]
    rw [foldX l _ (fun g hg => hl g (by simp [hg])), stepX_val (hl h (by simp))]

theorem look_ev (b : Book) (sps : List (List Letter)) (ok : BookOK b sps) : Ev Try.prog 96 [.agg b.enc] (bp b (.mi (encK (knownF b.n.toNat sps 0 [])))) := by
  have h5 := ok.five
  have hlen := ok.len
  have hn0 := ok.n0
  have hn1 := ok.n1
  refine Ev.intro fn96 ?_
  refine LWp.sx (gs := []) (hs := [.ice]) rfl ⟨⟨rfl, rfl⟩, trivial⟩ ?_
  refine LWp.seq (LWp.ops ?_)
  refine WOps.xn (gs := []) (hs := []) 1 rfl rfl trivial ?_
  refine WOps.cons (Op1.mmap (fun bm => ?_))
  refine WOps.xd (gs := []) (hs := [.ice, .lin]) rfl ⟨⟨rfl, rfl⟩, rfl, ⟨rfl, rfl, rfl, by decide⟩, trivial⟩ ?_
  refine LWp.ent (Ent.freezeLbox (t := 3) rfl) ?_
  refine LWp.seq (LWp.seq ?_)
  refine LWp.x (gs := []) (hs := []) rfl trivial ?_
  refine LWp.blockT (fun _ : List Nat => True) (fun _ => el [(3, .pi [bp b (.mo bm)])]) (fun ds => (bm, .map (encK (knownF b.n.toNat sps 0 []))) :: ds.map fun d => (d, HObj.dfr)) (fun ds => ds) ?_ ?_
  · refine LWp.loopN (X := Nat × Kn × List Nat) (fun x => x.1 ≤ sps.length ∧ KOK x.2.1 ∧ knownF b.n.toNat sps 0 [] = knownF b.n.toNat (sps.drop x.1) x.1 x.2.1)
      (fun x => el [(3, .pi [bp b (.mo bm)]), (12, I sps.length), (13, I x.1)]) (fun x => (bm, .map (encK x.2.1)) :: x.2.2.map fun d => (d, HObj.dfr)) (fun x => x.2.2) (fun x => sps.length - x.1) (0, [], []) ⟨by simp, (by intro e he; cases he), rfl⟩
      (Ent.el ⟨rfl, by show I _ = I _; simp [hlen], rfl, trivial⟩) ?_
    rintro ⟨i, es, ds⟩ ⟨hi, hk, hes⟩
    simp only at hi hk hes ⊢
    refine LWp.sx (gs := []) (hs := []) rfl trivial ?_
    refine LWp.seq (LWp.ite rfl (fun hc => ?_) (fun hc => ?_))
    · simp only [decide_eq_true_eq, Int.ofNat_lt] at hc
      obtain ⟨xs, hx⟩ := ex_get hc
      obtain ⟨s, a, hsp⟩ := ok.sp i xs hx
      have hi5 : i < 5 := by omega
      rw [drop_cons hx, knownF] at hes
      have hall : ∀ h ∈ hearL b.n.toNat xs [], HOK h := fun h hh => ⟨by
        have := hearL_len _ xs [] h hh
        have h1 := hsp.len
        have h2 := hsp.t5
        simp at this; omega, hearL_HOK (by omega) xs [] h hh (by simp)⟩
      refine LWp.skip (LWp.seq (LWp.block ?_))
      refine LWp.sx (gs := []) (hs := [.lin]) rfl ⟨rfl, ⟨rfl, rfl, rfl, by decide⟩, trivial⟩ ?_
      refine LWp.ent (Ent.freezeLbox (t := 4) rfl) ?_
      refine LWp.sx (gs := []) (hs := [.ret (.fn (.func 104) [] [.pi [bp b (.mo bm)], .pi [I i]])]) rfl ⟨strings_ev b i (.mo bm), trivial⟩ ?_
      refine LWp.block ?_
      refine LWp.rfun (X := KX) (HS := fun x => [(bm, .map (encK x.1))]) (H0 := ds.map fun d => (d, HObj.dfr)) ⟨es, hk⟩ (fun x' => x'.1 = (hearL b.n.toNat xs []).foldl (fun es h => kput es h (2 ^ i)) es)
        (fun x args x' => ∃ h, HOK h ∧ args = [.agg (hcells h)] ∧ x'.1 = kput x.1 h (2 ^ i)) (el [(3, .pi [bp b (.mo bm)]), (4, .pi [I i])]) rfl rfl (el_nl ⟨rfl, rfl, trivial⟩ rfl) (by simp) ?_ ?_ ?_
      · rintro l x args x' ⟨h, hh, rfl, hx'⟩
        refine ⟨rfl, ?_⟩
        refine LWp.x (gs := []) (hs := [.lin]) rfl ⟨rfl, ⟨rfl, rfl, rfl, by decide⟩, trivial⟩ ?_
        refine ⟨rfl, LWp.ent (Ent.freezeLbox (t := 5) rfl) (LWp.block ?_)⟩
        refine look_body b i hi5 bm l x.1 x.2 h hh _ ?_ _ ⟨rfl, rfl, rfl, trivial⟩
        intro env'
        refine ⟨rfl, ?_⟩
        rw [hx']
        exact List.Sublist.refl _
      · intro l lo hy
        refine (strings1_ev (fun x : KX => (l, lo) :: [(bm, .map (encK x.1))]) (stepX i hi5) (.yield l) b i s a xs (.mo bm) hsp hn0 hn1 ?_ ⟨es, hk⟩).mono ?_
        · intro x h hh
          exact ⟨rfl, hy x _ _ ⟨h, hh, rfl, stepX_val hh⟩⟩
        · intro r Ho hHo
          exact ⟨_, foldX _ _ hall, hHo⟩
      · intro x' rD hfin
        refine LWp.ent (Ent.perm (List.Perm.swap _ _ _)) ?_
        refine LWp.x (gs := []) (hs := []) rfl ⟨by omega, trivial⟩ ?_
        refine ⟨(i + 1, x'.1, rD :: ds), ⟨hc, x'.2, ?_⟩, by simp only; omega, Ent.el ⟨rfl, rfl, rfl, trivial⟩⟩
        rw [hes, hfin]
    · simp only [decide_eq_false_iff_not, Int.ofNat_lt] at hc
      refine LWp.exit ⟨ds, trivial, Ent.trans (Ent.ofH ?_) (Ent.el ⟨rfl, trivial⟩)⟩
      rw [hes, drop_nil hc]; rfl
  · intro ds _
    refine LWp.sx (gs := []) (hs := []) rfl trivial ?_
    refine LWp.ent (Ent.freezeMap (t := 2) (i := 0) rfl rfl) ?_
    have hD : ∀ ds : List Nat, DropD (ds.map fun d => (d, HObj.dfr)) ds [] := by
      intro ds
      induction ds with
      | nil => rfl
      | cons d ds ih => exact ⟨0, rfl, by simpa using ih⟩
    refine LWp.ret ⟨.inr rfl, [], hD ds, .one (.tmp ?_ rfl)⟩
    show AV.pi _ = AV.pi _
    simp [subM]
end Go.Px

namespace Go.Px
open Go.Proofs

theorem isNaN_ev (n : Int) : Ev Try.prog 103 [I n] (B false) := by
  refine Ev.intro fn103 ?_
  refine LWp.sx (gs := []) (hs := []) rfl trivial ?_
  refine LWp.sx (gs := []) (hs := []) rfl trivial ?_
  refine LWp.ret (retT (.inr rfl) (.one (.tmp ?_ rfl)))
  show B _ = B _
  simp
def cmpI (a b : Int) : Int := if a < b then -1 else if a > b then 1 else 0
theorem cmp_ev (a b : Int) : Ev Try.prog 98 [I a, I b] (I (cmpI a b)) := by
  refine Ev.intro fn98 ?_
  refine LWp.sx (gs := []) (hs := []) rfl trivial ?_
  refine LWp.sx (gs := []) (hs := [.ret (B false)]) rfl ⟨isNaN_ev a, trivial⟩ ?_
  refine LWp.sx (gs := []) (hs := [.ret (B false)]) rfl ⟨isNaN_ev b, trivial⟩ ?_
  refine LWp.seq (LWp.seq ?_)
  refine LWp.x (gs := []) (hs := []) rfl trivial ?_
  refine LWp.ite (b := false) rfl (fun h => by cases h) (fun _ => LWp.skip (LWp.seq (LWp.seq ?_)))
  refine LWp.x (gs := []) (hs := []) rfl trivial ?_
  refine LWp.ite (b := false) rfl (fun h => by cases h) (fun _ => LWp.skip (LWp.seq (LWp.seq ?_)))
  refine LWp.x (gs := []) (hs := []) rfl trivial ?_
  refine LWp.ite rfl (fun h => ?_) (fun h => ?_)
  · simp only [decide_eq_true_eq] at h
    refine LWp.sx (gs := []) (hs := []) rfl trivial ?_
    refine LWp.ret (retT (.inr rfl) (.one (.tmp ?_ rfl)))
    show I _ = I _
    simp [cmpI, h]
  simp only [decide_eq_false_iff_not] at h
  refine LWp.skip (LWp.seq (LWp.seq ?_))
  refine LWp.x (gs := []) (hs := []) rfl trivial ?_
  refine LWp.ite rfl (fun g => ?_) (fun g => ?_)
  · simp only [decide_eq_true_eq] at g
    refine LWp.sx (gs := []) (hs := []) rfl trivial ?_
    refine LWp.ret (retT (.inr rfl) (.one (.tmp ?_ rfl)))
    show I _ = I _
    simp [cmpI, h, g]
  simp only [decide_eq_false_iff_not] at g
  refine LWp.skip ?_
  refine LWp.sx (gs := []) (hs := []) rfl trivial ?_
  refine LWp.ret (retT (.inr rfl) (.one (.tmp ?_ rfl)))
  show I _ = I _
  simp [cmpI, h, g]

/-- How two lists compare. -/
def cmpL : List Int → List Int → Int
  | [], [] => 0
  | [], _ :: _ => -1
  | _ :: _, [] => 1
  | a :: x, b :: y => if a = b then cmpL x y else if a < b then -1 else 1
theorem cmpL_lt : ∀ (a b : List Int), cmpL a b < 0 ↔ lessL a b = true
  | [], [] => by simp [cmpL, lessL]
  | [], _ :: _ => by simp [cmpL, lessL]
  | _ :: _, [] => by simp [cmpL, lessL]
  | a :: x, b :: y => by
    simp only [cmpL, lessL]
    by_cases h : a = b
    · simp only [h, if_true]; exact cmpL_lt x y
    · simp only [h, if_false]
      by_cases g : a < b <;> simp [g]

theorem compare_ev (a b : List Int) : Ev Try.prog 75 [ints a, ints b] (I (cmpL a b)) := by
  refine Ev.intro fn75 ?_
  refine LWp.slLen 0 rfl fun ha => ?_
  simp only [List.length_map] at ha
  refine LWp.sx (gs := []) (hs := []) rfl trivial ?_
  refine LWp.seq (LWp.seq ?_)
  refine LWp.x (gs := []) (hs := []) rfl trivial ?_
  refine LWp.blockT (fun _ : Unit => cmpL a b = cmpL [] (b.drop a.length) ∧ a.length ≤ b.length) (fun _ => el [(0, ints a), (1, ints b)]) (fun _ => []) (fun _ => []) ?_ ?_
  · refine LWp.loopN (fun k : Nat => k ≤ a.length ∧ k ≤ b.length ∧ cmpL a b = cmpL (a.drop k) (b.drop k)) (fun k => el [(0, ints a), (1, ints b), (9, ints a), (10, I a.length), (11, I k)]) (fun _ => []) (fun _ => []) (fun k => a.length - k) 0 ⟨by omega, by omega, rfl⟩
      (Ent.el ⟨rfl, rfl, rfl, by show I _ = I _; simp, rfl, trivial⟩) ?_
    rintro k ⟨h1, h2, h3⟩
    refine LWp.sx (gs := []) (hs := []) rfl trivial ?_
    refine LWp.seq (LWp.ite rfl (fun hc => ?_) (fun hc => ?_))
    · simp only [decide_eq_true_eq, Int.ofNat_lt] at hc
      obtain ⟨x, hx⟩ := ex_get hc
      refine LWp.skip (LWp.seq (LWp.block ?_))
      refine LWp.sx (gs := []) (hs := [.cells [I x]]) rfl ⟨⟨by omega, by simp [hx]⟩, trivial⟩ ?_
      refine LWp.seq (LWp.seq ?_)
      refine LWp.x (gs := []) (hs := []) rfl trivial ?_
      refine LWp.ite rfl (fun hb => ?_) (fun hb => ?_)
      · simp only [List.length_map, ge_iff_le, decide_eq_true_eq, Int.ofNat_le] at hb
        refine LWp.sx (gs := []) (hs := []) rfl trivial ?_
        refine LWp.ret (retT (.inr rfl) (.one (.tmp ?_ rfl)))
        show I _ = I _
        rw [h3, drop_cons hx, drop_nil (l := b) (by omega)]; rfl
      · simp only [List.length_map, ge_iff_le, decide_eq_false_iff_not, Int.ofNat_le] at hb
        have hb' : k < b.length := by omega
        obtain ⟨y, hy⟩ := ex_get hb'
        rw [drop_cons hx, drop_cons hy, cmpL] at h3
        refine LWp.skip ?_
        refine LWp.sx (gs := []) (hs := [.cells [I y]]) rfl ⟨⟨by omega, by simp [hy]⟩, trivial⟩ ?_
        refine LWp.sx (gs := []) (hs := [.ret (I (cmpI x y))]) rfl ⟨cmp_ev x y, trivial⟩ ?_
        refine LWp.seq ?_
        refine LWp.x (gs := []) (hs := []) rfl trivial ?_
        refine LWp.ite rfl (fun hd => ?_) (fun hd => ?_)
        · simp only [bne_iff_ne, ne_eq] at hd
          refine LWp.sx (gs := []) (hs := []) rfl trivial ?_
          refine LWp.ret (retT (.inr rfl) (.one (.tmp ?_ rfl)))
          show I _ = I _
          rw [h3]
          unfold cmpI at hd ⊢
          by_cases e : x = y
          · subst e; simp at hd
          · rw [if_neg e]
            by_cases g : x < y
            · simp [g]
            · have : x > y := by omega
              simp [g, this]
        · simp only [bne_eq_false_iff_eq] at hd
          have e : x = y := by
            unfold cmpI at hd
            by_cases g : x < y
            · simp [g] at hd
            · by_cases g' : x > y
              · simp [g, g'] at hd
              · omega
          rw [if_pos e] at h3
          refine LWp.skip ?_
          refine LWp.x (gs := []) (hs := []) rfl ⟨by omega, trivial⟩ ?_
          exact ⟨k + 1, ⟨hc, hb', h3⟩, by omega, Ent.el ⟨rfl, rfl, rfl, rfl, rfl, trivial⟩⟩
    · simp only [decide_eq_false_iff_not, Int.ofNat_lt] at hc
      have : k = a.length := by omega
      subst this
      exact LWp.exit ⟨(), ⟨by rw [h3]; simp, h2⟩, Ent.el ⟨rfl, rfl, trivial⟩⟩
  · rintro _ ⟨h3, h2⟩
    refine LWp.seq (LWp.seq ?_)
    refine LWp.x (gs := []) (hs := []) rfl trivial ?_
    refine LWp.ite rfl (fun hb => ?_) (fun hb => ?_)
    · simp only [List.length_map, decide_eq_true_eq, Int.ofNat_lt] at hb
      obtain ⟨y, hy⟩ := ex_get hb
      refine LWp.sx (gs := []) (hs := []) rfl trivial ?_
      refine LWp.ret (retT (.inr rfl) (.one (.tmp ?_ rfl)))
      show I _ = I _
      rw [h3, drop_cons hy]; rfl
    · simp only [List.length_map, decide_eq_false_iff_not, Int.ofNat_lt] at hb
      refine LWp.skip ?_
      refine LWp.sx (gs := []) (hs := []) rfl trivial ?_
      refine LWp.ret (retT (.inr rfl) (.one (.tmp ?_ rfl)))
      show I _ = I _
      rw [h3, drop_nil hb]; rfl

/-- The numbers of a set. -/
def numsF (set : Int) (n : Nat) : List Int := (((List.range n).filter fun (k : Nat) => givesB set k)).map fun (k : Nat) => (k : Int)
theorem numsF_succ (set : Int) (n : Nat) : numsF set (n + 1) = numsF set n ++ (if givesB set n = true then [(n : Int)] else []) := by
  unfold numsF
  rw [List.range_succ, List.filter_append, List.map_append]
  congr 1
  cases hg : givesB set n <;> simp [hg]
theorem numsF_len (set : Int) (n : Nat) : (numsF set n).length ≤ n := by
  unfold numsF
  rw [List.length_map]
  exact Nat.le_trans (List.length_filter_le _ _) (by simp)
theorem numbers_ev (set : Int) (n : Nat) (h0 : 0 ≤ set) (h1 : set < 9223372036854775808) (hn : n ≤ 60) : Ev Try.prog 74 [I set, I n] (.lin 3 1 ((numsF set n).map fun x => [I x])) := by
  refine Ev.intro fn74 ?_
  refine LWp.sx (gs := []) (hs := []) rfl trivial ?_
  refine LWp.seq (LWp.seq ?_)
  refine LWp.x (gs := []) (hs := []) rfl trivial ?_
  refine LWp.blockT (fun _ : Unit => True) (fun _ => el [(4, .lin 3 1 ((numsF set n).map fun x => [I x]))]) (fun _ => []) (fun _ => []) ?_ ?_
  · refine LWp.loopN (fun k : Nat => k ≤ n) (fun k => el [(0, I set), (4, .lin 3 1 ((numsF set k).map fun x => [I x])), (6, I n), (7, I k)]) (fun _ => []) (fun _ => []) (fun k => n - k) 0 (by omega)
      (Ent.trans (Ent.nilLin (t := 4) 3 1 rfl) (Ent.el ⟨rfl, rfl, rfl, rfl, trivial⟩)) ?_
    intro k hk
    refine LWp.sx (gs := []) (hs := []) rfl trivial ?_
    refine LWp.seq (LWp.ite rfl (fun hc => ?_) (fun hc => ?_))
    · simp only [decide_eq_true_eq, Int.ofNat_lt] at hc
      have hq : 0 ≤ set / 2 ^ ((k : Nat) : Int).toNat := Int.ediv_nonneg h0 (Int.le_of_lt (Int.pow_pos (by omega)))
      have hq2 : set / 2 ^ ((k : Nat) : Int).toNat ≤ set := Int.ediv_le_self _ h0
      refine LWp.skip (LWp.seq (LWp.block ?_))
      refine LWp.sx (gs := []) (hs := []) rfl trivial ?_
      refine LWp.seq ?_
      refine LWp.x (gs := []) (hs := []) rfl ⟨⟨h0, by omega, by omega⟩, ⟨⟨hq, by omega⟩, by omega, by omega⟩, trivial⟩ ?_
      refine LWp.ite (b := givesB set k) rfl (fun hb => ?_) (fun hb => ?_)
      · have hl := numsF_len set k
        refine LWp.x (gs := []) (hs := [.ice]) rfl ⟨rfl, ⟨by simp only [List.length_map, chunk, List.length_cons, List.length_nil]; omega, by simp only [List.length_map, chunk, List.length_cons, List.length_nil]; omega⟩, trivial⟩ ?_
        refine LWp.x (gs := []) (hs := []) rfl ⟨by omega, trivial⟩ ?_
        refine ⟨k + 1, hc, by omega, Ent.el ⟨rfl, ?_, rfl, rfl, trivial⟩⟩
        show AV.lin 3 1 _ = AV.lin 3 1 _
        rw [numsF_succ, hb, List.map_append]; rfl
      · refine LWp.skip ?_
        refine LWp.x (gs := []) (hs := []) rfl ⟨by omega, trivial⟩ ?_
        refine ⟨k + 1, hc, by omega, Ent.el ⟨rfl, ?_, rfl, rfl, trivial⟩⟩
        show AV.lin 3 1 _ = AV.lin 3 1 _
        rw [numsF_succ, hb]; simp
    · simp only [decide_eq_false_iff_not, Int.ofNat_lt] at hc
      have : k = n := by omega
      subst this
      exact LWp.exit ⟨(), trivial, Ent.el ⟨rfl, trivial⟩⟩
  · intro _ _
    refine LWp.sx (gs := []) (hs := []) rfl trivial ?_
    exact LWp.ret (retT (.inr rfl) (.lin rfl rfl))
end Go.Px

namespace Go.Px
open Go.Proofs

def pad (h : List Int) : List Int := [h.getD 0 0, h.getD 1 0, h.getD 2 0, h.getD 3 0, h.getD 4 0]
theorem wideV5 (c1 c2 c3 c4 c5 : Int) (h1 : (Lit.int .i64 c1).wf = true) (h2 : (Lit.int .i64 c2).wf = true) (h3 : (Lit.int .i64 c3).wf = true) (h4 : (Lit.int .i64 c4).wf = true) (h5 : (Lit.int .i64 c5).wf = true) :
    WideKey Try.prog 5 97 (.agg #[.int .i64 c1, .int .i64 c2, .int .i64 c3, .int .i64 c4, .int .i64 c5]) := by
  have e97 : Try.prog.cellsOf 97 = 5 := by kernel_rfl
  have e3 : Try.prog.cellsOf 3 = 1 := by kernel_rfl
  refine ⟨?_, [.int .i64 c1, .int .i64 c2, .int .i64 c3, .int .i64 c4, .int .i64 c5], ?_⟩
  · simp [Value.formed, Try.underlying97, e97]
  · simp [Value.cells, Program.keyLits, Try.underlying97, Try.underlying3, e97, e3, h1, h2, h3, h4, h5, List.range_succ]
theorem HOK.wide5 {h : List Int} (hh : HOK h) : WideKey Try.prog 5 97 (.agg #[.int .i64 (h.getD 0 0), .int .i64 (h.getD 1 0), .int .i64 (h.getD 2 0), .int .i64 (h.getD 3 0), .int .i64 (h.getD 4 0)]) :=
  wideV5 _ _ _ _ _ (wf_of (hh.get 0).1 (hh.get 0).2) (wf_of (hh.get 1).1 (hh.get 1).2) (wf_of (hh.get 2).1 (hh.get 2).2) (wf_of (hh.get 3).1 (hh.get 3).2) (wf_of (hh.get 4).1 (hh.get 4).2)

def hbefore (h g : List Int) : Bool := if pad h = pad g ∨ h.length ≠ g.length then decide (h.length < g.length) else decide (cmpL (pad h) (pad g) < 0)

theorem before_ev (h g : List Int) (hh : HOK h) (hg : HOK g) : Ev Try.prog 97 [.agg (hcells h), .agg (hcells g)] (B (hbefore h g)) := by
  refine Ev.intro fn97 ?_
  refine LWp.sx (gs := []) (hs := [.ice, .ice]) rfl ⟨⟨rfl, rfl⟩, ⟨rfl, rfl⟩, trivial⟩ ?_
  have fin : ∀ env : Env, ElOK env [(2, .pi (hcells h)), (3, .pi (hcells g))] → pad h = pad g ∨ h.length ≠ g.length →
      LWp Try.prog none 28 (.seq (.ops [⟨some 17, none, .faddr 99 (tm 2) 0 0⟩, ⟨some 18, none, .load 3 (tm 17) none⟩, ⟨some 19, none, .faddr 99 (tm 3) 0 0⟩, ⟨some 20, none, .load 3 (tm 19) none⟩, ⟨some 21, none, .bin .lss 3 (tm 18) (tm 20)⟩, ⟨some 4, none, .mov (tm 21)⟩]) .ret)
        (fun e env H D => e = .ret ∧ retP Try.prog [.tmp 4] (B (hbefore h g)) .ret env H D) env [] [] := by
    intro env he hp
    refine LWp.ent (Ent.el he) ?_
    refine LWp.sx (gs := []) (hs := []) rfl trivial ?_
    refine LWp.ret ⟨rfl, retT (.inr rfl) (.one (.tmp ?_ rfl))⟩
    show B _ = B _
    simp [hbefore, hp]
  have heq : ∀ env : Env, evO env (tm 6) = .agg ((hcells h).drop 1) → evO env (tm 8) = .agg ((hcells g).drop 1) → ∀ K : Env → Heap → List Nat → Prop, K (updO env (some 9) (B (decide (pad h = pad g)))) [] [] → Op1 Try.prog none 28 (.eqT false 97 (tm 6) (tm 8)) (some 9) env [] [] K := by
    intro env h6 h8 K k
    refine Op1.eqT (m := 5) (DD := 5) (by decide) (by kernel_rfl) (by kernel_rfl) (by kernel_rfl) (by kernel_rfl) (by rw [h6]; rfl) (by rw [h8]; rfl) hh.wide5 hg.wide5 (decide (pad h = pad g)) ?_ k
    simp [pad]
  refine LWp.seq (LWp.seq (LWp.ops ?_))
  refine WOps.xn (gs := []) (hs := []) 4 rfl rfl trivial ?_
  refine WOps.cons (heq _ rfl rfl _ ?_)
  by_cases hp : pad h = pad g
  · refine WOps.xd (gs := [(10, true)]) (hs := []) rfl (by simp [hp]) ?_
    refine LWp.ite (b := true) rfl (fun _ => ?_) (fun h => by cases h)
    refine LWp.mono (fin _ ?_ (.inl hp)) (by rintro e env H D ⟨rfl, h⟩; exact h)
    exact ⟨rfl, rfl, trivial⟩
  · refine WOps.xd (gs := [(10, false)]) (hs := []) rfl (by simp [hp]) ?_
    refine LWp.ite rfl (fun hb => ?_) (fun hb => ?_)
    · simp only [bne_iff_ne, ne_eq, Int.natCast_inj] at hb
      refine LWp.mono (fin _ ?_ (.inr hb)) (by rintro e env H D ⟨rfl, h⟩; exact h)
      exact ⟨rfl, rfl, trivial⟩
    · simp only [bne_eq_false_iff_eq, Int.natCast_inj] at hb
      refine LWp.skip ?_
      refine LWp.sd (gs := []) (hs := [.ret (I (cmpL (pad h) (pad g)))]) hmix rfl (by kernel_rfl) ⟨⟨⟨trivial, trivial⟩, ⟨Nat.le_refl 5, by decide⟩, by decide, by decide⟩, ⟨⟨trivial, trivial⟩, ⟨Nat.le_refl 5, by decide⟩, by decide, by decide⟩, compare_ev (pad h) (pad g), trivial⟩ ?_
      refine LWp.ret (retT (.inr rfl) (.one (.tmp ?_ rfl)))
      show B _ = B _
      simp [hbefore, hp, hb]
end Go.Px

namespace Go.Px
open Go.Proofs

theorem list_pad (h : List Int) (hl : h.length ≤ 5) : ((pad h).map fun x => [I x]).take (min 5 h.length) ++ (List.replicate h.length [I 0]).drop (min 5 h.length) = h.map fun x => [I x] := by
  match h, hl with
  | [], _ => rfl
  | [_], _ => rfl
  | [_, _], _ => rfl
  | [_, _, _], _ => rfl
  | [_, _, _, _], _ => rfl
  | [_, _, _, _, _], _ => rfl

theorem list_ev (h : List Int) (hl : h.length ≤ 5) : Ev Try.prog 64 [.agg (hcells h)] (ints h) := by
  refine Ev.intro fn64 ?_
  refine LWp.sx (gs := []) (hs := [.ice]) rfl ⟨⟨rfl, rfl⟩, trivial⟩ ?_
  refine LWp.seq (LWp.ops ?_)
  refine WOps.xn (gs := []) (hs := []) 2 rfl rfl trivial ?_
  refine WOps.cons (Op1.mslice h.length rfl rfl rfl rfl (by omega) (by omega) rfl (fun b => ?_))
  refine WOps.xd (gs := []) (hs := []) rfl trivial ?_
  refine LWp.seq (LWp.ops ?_)
  refine WOps.xn (gs := []) (hs := []) 3 rfl rfl ⟨⟨⟨trivial, trivial⟩, ⟨Nat.le_refl 5, by decide⟩, by decide, by decide⟩, trivial⟩ ?_
  refine WOps.cons (Op1.copyA (i := 0) (ys := (pad h).map fun x => [I x]) rfl rfl rfl ?_)
  refine WOps.xd (gs := []) (hs := []) rfl trivial ?_
  refine LWp.ent (Ent.ofH (H' := [(b, .arr 3 1 h.length (h.map fun x => [I x]))]) ?_) ?_
  · have := list_pad h hl
    simp only [List.length_replicate, List.length_map] at this ⊢
    show [(b, HObj.arr 3 1 h.length _)] = _
    congr 3
  refine LWp.sx (gs := []) (hs := []) rfl trivial ?_
  refine LWp.ent (Ent.freezeArr (t := 2) (i := 0) (es := h.map fun x => [I x]) (b := b) (cap := h.length) (kk := 1) (T := 3) ?_ rfl) ?_
  · show AV.so _ _ _ = AV.so _ _ _
    simp
  refine LWp.ret ⟨.inr rfl, [], rfl, .one (.tmp rfl rfl)⟩
end Go.Px

namespace Go.Px
open Go.Proofs

theorem hear_pad (l : List Int) (hl : l.length ≤ 5) : setSeg (setSeg [I 0, I 0, I 0, I 0, I 0, I 0] 1 ((l.map fun x => [I x]).flatten.take (min l.length 5))) 0 [I ((min l.length 5 : Nat) : Int)] = hcells l := by
  match l, hl with
  | [], _ => rfl
  | [_], _ => rfl
  | [_, _], _ => rfl
  | [_, _, _], _ => rfl
  | [_, _, _, _], _ => rfl
  | [_, _, _, _, _], _ => rfl

/-- The error of something heard. -/
def hearE (n : Int) (l : List Int) : Int := if 5 < l.length then 3 else if beyondB 0 (n - 1) l = true then 7 else 0
theorem hear_ev (b : Book) (m : AV) (l : List Int) (h0 : 0 ≤ b.n) (h1 : b.n < 60) : Ev Try.prog 68 [bp b m, ints l] (.tup [.agg (hcells (if hearE b.n l = 0 then l else [])), I (hearE b.n l)]) := by
  refine Ev.intro fn68 ?_
  refine LWp.sx (gs := []) (hs := [.lin]) rfl ⟨rfl, trivial⟩ ?_
  have res : ∀ {env : Env} {e : Int} {h : List Int}, hearE b.n l = e → (if e = 0 then l else []) = h → env 4 = .lbox 99 (hcells h) → env 5 = I e → LWp Try.prog none 27 .ret (fun e env H D => e = .ret ∧ retP Try.prog [.cell 4 99, .tmp 5] (.tup [.agg (hcells (if hearE b.n l = 0 then l else [])), I (hearE b.n l)]) .ret env H D) env [] [] := by
    intro env e h he hh h4 h5
    refine LWp.ent (Ent.freezeLbox (t := 4) h4) (LWp.ret ⟨rfl, .inr rfl, [], rfl, .many (by decide) ⟨?_, .tmp ?_ rfl, trivial⟩⟩)
    · rw [he, hh]
      exact .cellI (n := some 6) (cs := hcells h) (upd_same _ _ _) (by kernel_rfl) rfl
    · rw [he]
      show upd env 4 _ 5 = _
      rw [upd_other _ _ (by decide), h5]
  refine LWp.blockX (fun _ : Unit => hearE b.n l = 0 ∧ l.length ≤ 5) (fun _ => el [(0, bp b m), (1, ints l), (4, .lbox 99 [I 0, I 0, I 0, I 0, I 0, I 0])]) (fun _ => []) (fun _ => []) ?_ ?_
  · refine LWp.sx (gs := []) (hs := []) rfl trivial ?_
    refine LWp.ite rfl (fun hc => ?_) (fun hc => ?_)
    · simp only [List.length_map, gt_iff_lt, decide_eq_true_eq] at hc
      have hc' : 5 < l.length := by omega
      refine LWp.sx (gs := []) (hs := []) rfl ⟨⟨rfl, rfl, rfl, by decide⟩, trivial⟩ ?_
      refine LWp.mono (res (e := 3) (h := []) (by simp [hearE, hc']) rfl ?_ ?_) (by rintro e env H D ⟨rfl, h⟩; exact h)
      · rfl
      · rfl
    · simp only [List.length_map, gt_iff_lt, decide_eq_false_iff_not] at hc
      have hc' : ¬ 5 < l.length := by omega
      refine LWp.sx (gs := []) (hs := [.ret (B (beyondB 0 (b.n - 1) l))]) rfl ⟨⟨by omega, by omega⟩, beyond_ev 0 (b.n - 1) l, trivial⟩ ?_
      refine LWp.ite rfl (fun hd => ?_) (fun hd => ?_)
      · refine LWp.sx (gs := []) (hs := []) rfl ⟨⟨rfl, rfl, rfl, by decide⟩, trivial⟩ ?_
        refine LWp.mono (res (e := 7) (h := []) (by simp only [hearE, hc', hd, if_true, if_false]) rfl ?_ ?_) (by rintro e env H D ⟨rfl, h⟩; exact h)
        · rfl
        · rfl
      · exact LWp.skip ⟨(), ⟨by simp only [hearE, hc', hd, if_false, Bool.false_eq_true], by omega⟩, Ent.el ⟨rfl, rfl, rfl, trivial⟩⟩
  · rintro _ ⟨he, hl⟩
    refine LWp.shareB (t := 4) rfl (fun bb => ?_)
    refine LWp.seq (LWp.ops ?_)
    refine WOps.xn (gs := []) (hs := []) 3 rfl rfl trivial ?_
    refine WOps.cons (Op1.copyC (i := 0) rfl rfl rfl (by simp; omega) (by simp [AV.isCell]; intro x _; rfl) ?_)
    refine WOps.xn (gs := []) (hs := []) 1 rfl rfl trivial ?_
    refine WOps.cons (Op1.storeO (i := 0) rfl rfl rfl rfl rfl rfl ?_ ?_)
    · show 0 + 1 ≤ (setSeg _ _ _).length
      simp only [setSeg, List.length_append, List.length_take, List.length_drop, List.length_map, List.length_cons, List.length_nil]; omega
    refine WOps.ent (Ent.ofH (H' := [(bb, .cells 99 (hcells l))]) ?_) ?_
    · rw [← hear_pad l hl]
      have e : min (l.map fun x => [I x]).length 5 = min l.length 5 := by rw [List.length_map]
      rw [← e]; rfl
    refine WOps.ent (Ent.unshareB (i := 0) (t := 4) rfl rfl) ?_
    refine WOps.xd (gs := []) (hs := []) rfl trivial ?_
    refine LWp.sx (gs := []) (hs := []) rfl ⟨⟨rfl, rfl, rfl, Nat.le_refl 6⟩, trivial⟩ ?_
    refine LWp.mono (res (e := 0) (h := l) he rfl ?_ ?_) (by rintro e env H D ⟨rfl, h⟩; exact h)
    · rfl
    · rfl
end Go.Px

namespace Go.Px
open Go.Proofs

/-- The letter of an alphabet that has a byte. -/
def letAt (ls : List Letter) (c : Int) : Letter := (ls[(indexC ls c).toNat]?).getD ⟨0, 0, false⟩
def spLetters (b : Book) (s : Spelling) : List Letter := match b.al[s.a.toNat]? with
  | none => []
  | some a => s.t.map fun c => letAt a.ls c.toNat
def spsOf (b : Book) : List (List Letter) := b.ss.map (spLetters b)
def knownOf (b : Book) : Kn := knownF b.n.toNat (spsOf b) 0 []

theorem failF_zero {f : Nat → Int} : ∀ {m k : Nat}, (failF f m k).2 = 0 → ∀ j, k ≤ j → j < k + m → f j = 0
  | 0, k, _, j, h1, h2 => by omega
  | m + 1, k, h, j, h1, h2 => by
    simp only [failF] at h
    by_cases hf : f k = 0
    · rw [if_pos hf] at h
      by_cases e : j = k
      · subst e; exact hf
      · exact failF_zero h j (by omega) (by omega)
    · rw [if_neg hf] at h
      exact absurd h hf
theorem idxF_lt {α : Type} (p : α → Bool) : ∀ (l : List α) (k : Int), 0 ≤ k → 0 ≤ idxF p l k → k ≤ idxF p l k ∧ ∃ x, l[(idxF p l k - k).toNat]? = some x ∧ p x = true
  | [], k, _, h => by simp [idxF] at h
  | x :: l, k, hk, h => by
    by_cases hp : p x = true
    · have e : idxF p (x :: l) k = k := by simp only [idxF, hp, if_true]
      rw [e]; exact ⟨Int.le_refl _, x, by simp, hp⟩
    · have e : idxF p (x :: l) k = idxF p l (k + 1) := by simp only [idxF, hp, if_false, Bool.false_eq_true]
      rw [e] at h ⊢
      obtain ⟨h1, y, h2, h3⟩ := idxF_lt p l (k + 1) (by omega) h
      refine ⟨by omega, y, ?_, h3⟩
      have : (idxF p l (k + 1) - k).toNat = (idxF p l (k + 1) - (k + 1)).toNat + 1 := by omega
      rw [this]; simpa using h2

theorem bookOK (b : Book) (_hw : b.wf) (h : (check b).2.2 = 0) : BookOK b (spsOf b) := by
  unfold check at h
  split at h
  · simp at h
  rename_i h1
  split at h
  · simp at h
  rename_i h2
  split at h
  · rename_i h3
    split at h
    · simp at h
    rename_i h4
    split at h
    · rename_i h5
      simp only [beyondB, List.any_cons, List.any_nil, Bool.or_false, Bool.not_eq_true, Bool.or_eq_false_iff, decide_eq_false_iff_not] at h1 h2
      refine ⟨by omega, by omega, by simp [spsOf], by simp [spsOf]; omega, ?_⟩
      intro i xs hx
      simp only [spsOf, List.getElem?_map, Option.map_eq_some_iff] at hx
      obtain ⟨s, hs, rfl⟩ := hx
      have hil := (List.getElem?_eq_some_iff.1 hs).1
      have he := failF_zero h5 i (by omega) (by omega)
      simp only [spellErr, hs] at he
      split at he
      · cases he
      rename_i g1
      split at he
      · cases he
      rename_i g2
      simp only [beyondB, List.any_cons, List.any_nil, Bool.or_false, Bool.not_eq_true, Bool.or_eq_false_iff, decide_eq_false_iff_not] at g1 g2
      have halt : s.a.toNat < b.al.length := by omega
      obtain ⟨a, ha⟩ := ex_get halt
      simp only [ha] at he
      split at he
      case isFalse => cases he
      rename_i g3
      have hae := failF_zero h3 s.a.toNat (by omega) (by omega)
      simp only [alphErr, ha] at hae
      split at hae
      case isFalse => cases hae
      split at hae
      · cases hae
      split at hae
      · cases hae
      have hxs : spLetters b s = s.t.map fun c => letAt a.ls c.toNat := by simp only [spLetters, ha]
      have hat : ∀ (k : Nat) (c : UInt8), s.t[k]? = some c → 0 ≤ indexC a.ls c.toNat ∧ ∃ x, a.ls[(indexC a.ls c.toNat).toNat]? = some x ∧ (spLetters b s)[k]? = some x := by
        intro k c hc
        have h0 : 0 ≤ indexC a.ls c.toNat := by
          have := List.all_eq_true.1 g3 c (List.mem_of_getElem? hc)
          simpa using this
        obtain ⟨_, x, hx, _⟩ := idxF_lt _ a.ls 0 (by omega) h0
        rw [Int.sub_zero] at hx
        refine ⟨h0, x, hx, ?_⟩
        rw [hxs, List.getElem?_map, hc]
        simp only [Option.map_some, letAt]
        have hx' : a.ls[(indexC a.ls c.toNat).toNat]? = some x := hx
        rw [hx']; rfl
      refine ⟨s, a, hs, by omega, ha, by rw [hxs]; simp, hat, ?_, by omega⟩
      intro x hx
      rw [hxs] at hx
      obtain ⟨c, hc, rfl⟩ := List.mem_map.1 hx
      obtain ⟨k, hk⟩ := List.mem_iff_getElem?.1 hc
      obtain ⟨h0, y, hy, hy2⟩ := hat k c hk
      have e : letAt a.ls c.toNat = y := by simp only [letAt, hy]; rfl
      rw [e]
      have hlt := (List.getElem?_eq_some_iff.1 hy).1
      have hle := failF_zero hae (indexC a.ls c.toNat).toNat (by omega) (by omega)
      simp only [letterErr, hy] at hle
      split at hle
      · cases hle
      split at hle
      · cases hle
      split at hle
      · cases hle
      rename_i g4
      simp only [beyondB, List.any_cons, List.any_nil, Bool.or_false, Bool.not_eq_true, Bool.or_eq_false_iff, decide_eq_false_iff_not] at g4
      have := pow2_le (k := b.n.toNat) (by omega)
      omega
    · rename_i h5
      exact absurd h h5
  · rename_i h3
    exact absurd h h3
end Go.Px

namespace Go.Px
open Go.Proofs

def enterE (b : Book) (many : Int) (l : List Int) : Int := if (check b).2.2 = 0 then (if beyondB 0 (many - 1) l = true then 4 else 0) else (check b).2.2
abbrev lookP (b : Book) : AV := bp b (.mi (encK (knownOf b)))
theorem enter_ev (b : Book) (hw : b.wf) (many : Int) (hm0 : 0 ≤ many) (hm1 : many ≤ 9223372036854775807) (l : List Int) : Ev Try.prog 59 [.agg b.enc, I many, ints l] (.tup [if enterE b many l = 0 then lookP b else .v (.pointer none), I (enterE b many l)]) := by
  refine Ev.intro fn59 ?_
  refine LWp.sx (gs := []) (hs := [.ice]) rfl ⟨⟨rfl, rfl⟩, trivial⟩ ?_
  refine LWp.sx (gs := []) (hs := [.ret (.tup [I (check b).1, I (check b).2.1, I (check b).2.2])]) rfl ⟨check_ev b hw, trivial⟩ ?_
  refine LWp.blockX (fun _ : Unit => enterE b many l = 0 ∧ (check b).2.2 = 0) (fun _ => el [(3, .pi b.enc)]) (fun _ => []) (fun _ => []) ?_ ?_
  · refine LWp.sx (gs := []) (hs := []) rfl trivial ?_
    refine LWp.ite rfl (fun hc => ?_) (fun hc => ?_)
    · simp only [bne_iff_ne, ne_eq] at hc
      have he : enterE b many l = (check b).2.2 := by simp [enterE, hc]
      refine LWp.sx (gs := []) (hs := []) rfl trivial ?_
      refine LWp.ret (retT (.inr rfl) (.many (by decide) ⟨.tmp ?_ ?_, .tmp ?_ rfl, trivial⟩))
      · rw [he, if_neg hc]; rfl
      · rw [he, if_neg hc]; rfl
      · rw [he]; rfl
    · simp only [bne_eq_false_iff_eq] at hc
      refine LWp.sx (gs := []) (hs := [.ret (B (beyondB 0 (many - 1) l))]) rfl ⟨⟨by omega, by omega⟩, beyond_ev 0 (many - 1) l, trivial⟩ ?_
      refine LWp.ite rfl (fun hd => ?_) (fun hd => ?_)
      · have he : enterE b many l = 4 := by simp [enterE, hc, hd]
        refine LWp.sx (gs := []) (hs := []) rfl trivial ?_
        refine LWp.ret (retT (.inr rfl) (.many (by decide) ⟨.tmp ?_ ?_, .tmp ?_ rfl, trivial⟩))
        · rw [he]; rfl
        · rw [he]; rfl
        · rw [he]; rfl
      · exact LWp.skip ⟨(), ⟨by simp [enterE, hc, hd], hc⟩, Ent.el ⟨rfl, trivial⟩⟩
  · rintro _ ⟨he, hc⟩
    refine LWp.sx (gs := []) (hs := [.ret (lookP b)]) rfl ⟨look_ev b (spsOf b) (bookOK b hw hc), trivial⟩ ?_
    refine LWp.ret (retT (.inr rfl) (.many (by decide) ⟨.tmp ?_ ?_, .tmp ?_ rfl, trivial⟩))
    · rw [he]; rfl
    · rw [he]; rfl
    · rw [he]; rfl
end Go.Px

namespace Go.Px
open Go.Proofs

/-- Whether a set of spellings is within another one. -/
def selB (set : Int) (u : Nat) : Bool := (((u &&& set.toNat : Nat) : Int) == set)
def stepF (set : Int) (p : List Int × Nat) (e : List Int × Nat) : List Int × Nat :=
  if selB set e.2 = true then (if p.2 = 0 ∨ hbefore e.1 p.1 = true then e.1 else p.1, p.2 + 1) else p
/-- The first sound string that all of a set of spellings can be, and how many there are. -/
def firstK (es : Kn) (set : Int) : List Int × Nat := es.foldl (stepF set) ([], 0)

/-- A sound string comes before another one. -/
theorem pad_inj {h g : List Int} (hl : h.length = g.length) (h5 : h.length ≤ 5) (e : pad h = pad g) : h = g := by
  simp only [pad, List.cons.injEq, and_true] at e
  obtain ⟨e1, e2, e3, e4, e5⟩ := e
  apply hval_inj h5
  simp only [hval, hl, e1, e2, e3, e4, e5]
theorem hbefore_iff {h g : List Int} (_hh : HOK h) (_hg : HOK g) : hbefore h g = true ↔ h.length < g.length ∨ (h.length = g.length ∧ lessL (pad h) (pad g) = true) := by
  unfold hbefore
  by_cases hl : h.length = g.length
  · by_cases hp : pad h = pad g
    · rw [if_pos (.inl hp), hp]
      simp [hl, lessL_refl]
    · rw [if_neg (by simp [hl, hp])]
      rw [decide_eq_true_iff, cmpL_lt]
      simp [hl]
  · rw [if_pos (.inr hl)]
    simp [hl]
theorem lessL_trans : ∀ {a b c : List Int}, a.length = b.length → b.length = c.length → lessL a b = true → lessL b c = true → lessL a c = true
  | [], [], _, _, _, h, _ => by simp [lessL] at h
  | x :: a, y :: b, z :: c, h1, h2, h, g => by
    simp only [lessL] at h g ⊢
    have ih := lessL_trans (a := a) (b := b) (c := c) (by simpa using h1) (by simpa using h2)
    by_cases e1 : x = y
    · subst e1
      simp only [if_true] at h
      by_cases e2 : x = z
      · subst e2; simp only [if_true] at g ⊢; exact ih h g
      · simp only [e2, if_false] at g ⊢; exact g
    · simp only [e1, if_false, decide_eq_true_eq] at h
      by_cases e2 : y = z
      · subst e2; simp [e1, h]
      · simp only [e2, if_false, decide_eq_true_eq] at g
        have : x ≠ z := by omega
        simp [this]; omega
theorem lessL_total : ∀ {a b : List Int}, a.length = b.length → a ≠ b → lessL a b = false → lessL b a = true
  | [], [], _, h, _ => absurd rfl h
  | x :: a, y :: b, h1, h2, h => by
    simp only [lessL] at h ⊢
    by_cases e : x = y
    · subst e
      simp only [if_true] at h ⊢
      exact lessL_total (by simpa using h1) (fun e => h2 (by rw [e])) h
    · have e' : ¬ y = x := fun h => e h.symm
      simp only [e, e', if_false, decide_eq_false_iff_not, decide_eq_true_eq] at h ⊢
      omega
theorem hbefore_trans {a b c : List Int} (ha : HOK a) (hb : HOK b) (hc : HOK c) (h : hbefore a b = true) (g : hbefore b c = true) : hbefore a c = true := by
  rw [hbefore_iff ha hb] at h
  rw [hbefore_iff hb hc] at g
  rw [hbefore_iff ha hc]
  rcases h with h | ⟨h1, h2⟩ <;> rcases g with g | ⟨g1, g2⟩
  · left; omega
  · left; omega
  · left; omega
  · right; exact ⟨by omega, lessL_trans (a := pad a) (b := pad b) (c := pad c) rfl rfl h2 g2⟩
theorem hbefore_total {a b : List Int} (ha : HOK a) (hb : HOK b) (hne : a ≠ b) (h : hbefore a b = false) : hbefore b a = true := by
  have h' : ¬ hbefore a b = true := by simp [h]
  rw [hbefore_iff ha hb] at h'
  rw [hbefore_iff hb ha]
  by_cases hl : b.length < a.length
  · exact .inl hl
  · right
    have e : b.length = a.length := by omega
    refine ⟨e, lessL_total (a := pad a) (b := pad b) rfl (fun e' => hne (pad_inj e.symm ha.1 e')) ?_⟩
    cases hx : lessL (pad a) (pad b) with
    | false => rfl
    | true => exact absurd (.inr ⟨e.symm, hx⟩) h'
theorem hbefore_irrefl {a : List Int} (ha : HOK a) : hbefore a a = false := by
  cases h : hbefore a a with
  | false => rfl
  | true =>
    rw [hbefore_iff ha ha] at h
    simp [lessL_refl] at h

/-- What 'first' has found behind some entries. -/
def IsFirst (set : Int) (l : Kn) (p : List Int × Nat) : Prop :=
  p.2 = l.countP (fun e => selB set e.2) ∧ (p.2 = 0 → p.1 = []) ∧ (p.2 ≠ 0 → (∃ u, (p.1, u) ∈ l ∧ selB set u = true) ∧ ∀ e ∈ l, selB set e.2 = true → e.1 = p.1 ∨ hbefore p.1 e.1 = true)

theorem isFirst_fold (set : Int) : ∀ (l2 l1 : Kn) (p : List Int × Nat), KOK (l1 ++ l2) → IsFirst set l1 p → IsFirst set (l1 ++ l2) (l2.foldl (stepF set) p)
  | [], l1, p, _, h => by simpa using h
  | e :: l2, l1, p, hk, h => by
    have hstep : IsFirst set (l1 ++ [e]) (stepF set p e) := by
      obtain ⟨h1, h2, h3⟩ := h
      have he := hk e (by simp)
      unfold stepF
      by_cases hs : selB set e.2 = true
      · rw [if_pos hs]
        refine ⟨by simp [List.countP_append, hs, ← h1], fun h => by simp at h, fun _ => ?_⟩
        by_cases hb : p.2 = 0 ∨ hbefore e.1 p.1 = true
        · rw [if_pos hb]
          refine ⟨⟨e.2, by simp, hs⟩, ?_⟩
          intro g hg hgs
          rcases List.mem_append.1 hg with hg | hg
          · by_cases h0 : p.2 = 0
            · have : 0 < l1.countP (fun e => selB set e.2) := List.countP_pos_iff.2 ⟨g, hg, hgs⟩
              omega
            · rcases hb with hb | hb
              · exact absurd hb h0
              · obtain ⟨⟨u, hu, _⟩, h4⟩ := h3 h0
                rcases h4 g hg hgs with e1 | e1
                · right; rw [e1]; exact hb
                · right
                  exact hbefore_trans he.1 (hk (p.1, u) (by simp [hu])).1 (hk g (by simp [hg])).1 hb e1
          · simp only [List.mem_singleton] at hg; subst hg; exact .inl rfl
        · rw [if_neg hb]
          have h0 : ¬ p.2 = 0 := fun h => hb (.inl h)
          obtain ⟨⟨u, hu, hus⟩, h4⟩ := h3 h0
          refine ⟨⟨u, by simp [hu], hus⟩, ?_⟩
          intro g hg hgs
          rcases List.mem_append.1 hg with hg | hg
          · exact h4 g hg hgs
          · simp only [List.mem_singleton] at hg; subst hg
            by_cases e1 : g.1 = p.1
            · exact .inl e1
            · right
              refine hbefore_total he.1 (hk (p.1, u) (by simp [hu])).1 e1 ?_
              cases hx : hbefore g.1 p.1 with
              | false => rfl
              | true => exact absurd (.inr hx) hb
      · rw [if_neg hs]
        refine ⟨by simp [List.countP_append, hs, ← h1], h2, fun h0 => ?_⟩
        obtain ⟨⟨u, hu, hus⟩, h4⟩ := h3 h0
        refine ⟨⟨u, by simp [hu], hus⟩, ?_⟩
        intro g hg hgs
        rcases List.mem_append.1 hg with hg | hg
        · exact h4 g hg hgs
        · simp only [List.mem_singleton] at hg; subst hg; exact absurd hgs hs
    have := isFirst_fold set l2 (l1 ++ [e]) (stepF set p e) (by simpa using hk) hstep
    simpa using this

theorem isFirst_unique {set : Int} {l l' : Kn} (hp : l.Perm l') (hk : KOK l) {p q : List Int × Nat} (h : IsFirst set l p) (g : IsFirst set l' q) : p = q := by
  obtain ⟨h1, h2, h3⟩ := h
  obtain ⟨g1, g2, g3⟩ := g
  have e2 : p.2 = q.2 := by rw [h1, g1]; exact hp.countP_eq _
  by_cases h0 : p.2 = 0
  · exact Prod.ext (by rw [h2 h0, g2 (by omega)]) e2
  · obtain ⟨⟨u, hu, hus⟩, h4⟩ := h3 h0
    obtain ⟨⟨v, hv, hvs⟩, g4⟩ := g3 (by omega)
    refine Prod.ext ?_ e2
    rcases h4 _ (hp.symm.subset hv) hvs with a | a
    · exact a.symm
    · rcases g4 _ (hp.subset hu) hus with b | b
      · exact b
      · have := hbefore_trans (hk _ hu).1 (hk _ (hp.symm.subset hv)).1 (hk _ hu).1 a b
        rw [hbefore_irrefl (hk _ hu).1] at this; cases this
theorem firstK_perm {l es : Kn} (set : Int) (hp : l.Perm es) (hk : KOK es) : l.foldl (stepF set) ([], 0) = firstK es set := by
  have hk' : KOK l := fun e he => hk e (hp.subset he)
  have h0 : IsFirst set [] ([], 0) := ⟨rfl, fun _ => rfl, fun h => absurd rfl h⟩
  have h1 := isFirst_fold set l [] ([], 0) (by simpa using hk') h0
  have h2 := isFirst_fold set es [] ([], 0) (by simpa using hk) h0
  exact isFirst_unique (by simpa using hp) (by simpa using hk') h1 h2
end Go.Px

namespace Go.Px
open Go.Proofs

theorem filterMap_range {α : Type} (es : List α) : (List.range es.length).filterMap (fun j => es[j]?) = es := by
  have key : ∀ n, n ≤ es.length → (List.range n).filterMap (fun j => es[j]?) = es.take n := by
    intro n
    induction n with
    | zero => intro _; rfl
    | succ n ih =>
      intro hn
      have hn' : n < es.length := by omega
      rw [List.range_succ, List.filterMap_append, ih (by omega), List.take_succ_eq_append_getElem hn']
      simp [hn']
  rw [key _ (Nat.le_refl _), List.take_length]

def stOf (es : Kn) (set : Int) (seen : List Nat) : List Int × Nat := (seen.filterMap fun j => es[j]?).foldl (stepF set) ([], 0)
theorem stOf_snoc {es : Kn} {set : Int} {seen : List Nat} {j : Nat} {e : List Int × Nat} (h : es[j]? = some e) : stOf es set (seen ++ [j]) = stepF set (stOf es set seen) e := by
  simp [stOf, List.filterMap_append, h, List.foldl_append]
theorem stOf_all {es : Kn} {set : Int} {seen : List Nat} (hk : KOK es) (hn : seen.Nodup) (hlt : ∀ j ∈ seen, j < es.length) (hall : ∀ j, j < es.length → j ∈ seen) : stOf es set seen = firstK es set := by
  have hp : seen.Perm (List.range es.length) := (List.perm_ext_iff_of_nodup hn List.nodup_range).2 (fun j => by
    rw [List.mem_range]; exact ⟨hlt j, hall j⟩)
  have h2 := hp.filterMap (fun j => es[j]?)
  rw [filterMap_range] at h2
  exact firstK_perm set h2 hk
theorem stOf_HOK {es : Kn} {set : Int} (hk : KOK es) (seen : List Nat) : HOK (stOf es set seen).1 ∧ (stOf es set seen).2 ≤ seen.length := by
  have key : ∀ (l : Kn) (p : List Int × Nat), KOK l → HOK p.1 → HOK (l.foldl (stepF set) p).1 ∧ (l.foldl (stepF set) p).2 ≤ p.2 + l.length := by
    intro l
    induction l with
    | nil => intro p _ hp; exact ⟨hp, by simp⟩
    | cons e l ih =>
      intro p hl hp
      simp only [List.foldl_cons]
      have he := hl e (by simp)
      have hl' : KOK l := fun x hx => hl x (by simp [hx])
      have hst : stepF set p e = if selB set e.2 = true then (if p.2 = 0 ∨ hbefore e.1 p.1 = true then e.1 else p.1, p.2 + 1) else p := rfl
      rw [hst]
      split
      · obtain ⟨i1, i2⟩ := ih (if p.2 = 0 ∨ hbefore e.1 p.1 = true then e.1 else p.1, p.2 + 1) hl' (by simp only; split; exact he.1; exact hp)
        exact ⟨i1, by simp at i2 ⊢; omega⟩
      · obtain ⟨i1, i2⟩ := ih p hl' hp
        exact ⟨i1, by simp; omega⟩
  have h0 : KOK (seen.filterMap fun j => es[j]?) := by
    intro e he
    obtain ⟨j, _, hj⟩ := List.mem_filterMap.1 he
    exact hk e (List.mem_of_getElem? hj)
  obtain ⟨i1, i2⟩ := key _ ([], 0) h0 ⟨by simp, by simp⟩
  refine ⟨i1, Nat.le_trans i2 ?_⟩
  simp only [Nat.zero_add]
  exact List.length_filterMap_le _ _

theorem first_ev (b : Book) (es : Kn) (hk : KOK es) (hlen : es.length < 1000000) (set : Int) (h0 : 0 ≤ set) (h1 : set < 9223372036854775808) :
    Ev Try.prog 60 [bp b (.mi (encK es)), I set] (.tup [.agg (hcells (firstK es set).1), I (firstK es set).2]) := by
  refine Ev.intro fn60 ?_
  refine LWp.sx (gs := []) (hs := [.lin]) rfl ⟨rfl, trivial⟩ ?_
  refine LWp.seq (LWp.seq (LWp.ops ?_))
  refine WOps.xn (gs := []) (hs := []) 4 rfl rfl trivial ?_
  refine WOps.cons (Op1.rangeM rfl (fun bI m => ?_))
  refine WOps.xd (gs := []) (hs := []) rfl trivial ?_
  refine LWp.blockT (fun _ : Unit => True) (fun _ => el [(4, .lbox 99 (hcells (firstK es set).1)), (5, I (firstK es set).2)]) (fun _ => []) (fun _ => []) ?_ ?_
  · refine LWp.loopN (X := List Nat) (fun seen => seen.Nodup ∧ (∀ j ∈ seen, j < es.length)) (fun seen => el [(1, I set), (4, .lbox 99 (hcells (stOf es set seen).1)), (5, I (stOf es set seen).2), (12, .po bI 0)])
      (fun seen => [(bI, .miter m (encK es) seen)]) (fun _ => []) (fun seen => es.length - seen.length) [] ⟨by simp, by simp⟩ (Ent.el ⟨rfl, rfl, rfl, rfl, trivial⟩) ?_
    rintro seen ⟨hn, hlt⟩
    have hsl : seen.length ≤ es.length := by
      have hs := List.Nodup.length_le_of_subset (l₂ := List.range es.length) hn (fun j hj => List.mem_range.2 (hlt j hj))
      simpa using hs
    obtain ⟨hbok, hcnt⟩ := stOf_HOK (set := set) hk seen
    refine LWp.seq (LWp.ops (WOps.cons (Op1.nextM (i := 0) rfl rfl (fun j kv p hj he => ?_) (fun hall => ?_))))
    · have he' : (es.map fun e => (hval e.1, I e.2))[j]? = some (kv, p) := he
      rw [List.getElem?_map, Option.map_eq_some_iff] at he'
      obtain ⟨⟨h, u⟩, hj2, he3⟩ := he'
      simp only [Prod.mk.injEq] at he3
      obtain ⟨rfl, rfl⟩ := he3
      have hjl := (List.getElem?_eq_some_iff.1 hj2).1
      obtain ⟨hh, hu⟩ := hk _ (List.mem_of_getElem? hj2)
      simp only at hh hu
      have hst := stOf_snoc (set := set) (seen := seen) hj2
      have hn' : (seen ++ [j]).Nodup := by
        rw [List.nodup_append]
        exact ⟨hn, by simp, by intro a ha c hc e; simp only [List.mem_singleton] at hc; subst hc e; exact hj ha⟩
      have hlt' : ∀ i ∈ seen ++ [j], i < es.length := by
        intro i hi
        rcases List.mem_append.1 hi with hi | hi
        · exact hlt i hi
        · simp only [List.mem_singleton] at hi; subst hi; exact hjl
      have hsl' : (seen ++ [j]).length ≤ es.length := by
        have hs := List.Nodup.length_le_of_subset (l₂ := List.range es.length) hn' (fun j hj => List.mem_range.2 (hlt' j hj))
        simpa using hs
      simp only [List.length_append, List.length_cons, List.length_nil] at hsl'
      generalize stOf es set seen = st at hst hbok hcnt
      obtain ⟨best, many⟩ := st
      simp only at hbok hcnt
      refine WOps.xd (gs := []) (hs := []) rfl trivial ?_
      refine LWp.seq (LWp.ite (b := true) rfl (fun _ => LWp.skip ?_) (fun h => by cases h))
      refine LWp.block (LWp.seq (LWp.ops (WOps.cons (Op1.entry (i := 0) rfl rfl he ?_))))
      refine WOps.xd (gs := []) (hs := [.lin]) rfl ⟨rfl, ⟨rfl, rfl, rfl, by decide⟩, trivial⟩ ?_
      refine LWp.seq (LWp.seq ?_)
      refine LWp.x (gs := []) (hs := []) rfl ⟨⟨⟨by omega, by omega⟩, h0, h1⟩, trivial⟩ ?_
      refine LWp.ite rfl (fun hb => ?_) (fun hb => ?_)
      · have hsel : selB set u = false := by
          have hb : ((((u : Int).toNat &&& set.toNat : Nat) : Int) != set) = true := hb
          simp only [bne_iff_ne, ne_eq] at hb
          simp only [selB, beq_eq_false_iff_ne, ne_eq]
          exact hb
        refine LWp.exit ⟨seen ++ [j], ⟨hn', hlt'⟩, by simp; omega, Ent.trans (Ent.ofH rfl) (Ent.el ⟨rfl, ?_, ?_, rfl, trivial⟩)⟩
        · rw [hst]; simp only [stepF, hsel, if_false, Bool.false_eq_true]; rfl
        · rw [hst]; simp only [stepF, hsel, if_false, Bool.false_eq_true]; rfl
      · have hsel : selB set u = true := by
          have hb : ((((u : Int).toNat &&& set.toNat : Nat) : Int) != set) = false := hb
          simp only [bne_eq_false_iff_eq] at hb
          simp only [selB, beq_iff_eq]
          exact hb
        refine LWp.skip ?_
        refine LWp.sx (gs := []) (hs := []) rfl ⟨by omega, trivial⟩ ?_
        refine LWp.cutX (fun _ : Unit => True) (fun _ => el [(1, I set), (4, .lbox 99 (hcells best)), (5, I ((many : Int) + 1)), (6, .lbox 99 (hcells h)), (12, .po bI 0), (31, B (decide (many = 0 ∨ hbefore h best = true)))]) (fun _ => [(bI, .miter m (encK es) (seen ++ [j]))]) (fun _ => []) ?_ ?_
        · by_cases hm : many = 0
          · subst hm
            refine LWp.x (gs := [(27, true)]) (hs := []) rfl (by simp) ?_
            exact ⟨(), trivial, Ent.el ⟨rfl, rfl, rfl, rfl, rfl, by show B _ = B _; simp, trivial⟩⟩
          · have hf : (((many : Int) + 1) == 1) = false := by simp; omega
            refine LWp.x (gs := [(27, false)]) (hs := [.ret (B (hbefore h best))]) rfl ⟨hf, hf, ⟨hf, before_ev h best hh hbok⟩, hf, trivial⟩ ?_
            exact ⟨(), trivial, Ent.el ⟨rfl, rfl, rfl, rfl, rfl, by show B _ = B _; simp [hm], trivial⟩⟩
        intro _ _
        refine LWp.ite rfl (fun hd => ?_) (fun hd => ?_)
        · simp only [decide_eq_true_eq] at hd
          refine LWp.x (gs := []) (hs := []) rfl ⟨⟨rfl, rfl, rfl, Nat.le_refl 6⟩, trivial⟩ ?_
          refine ⟨seen ++ [j], ⟨hn', hlt'⟩, by simp; omega, Ent.trans (Ent.ofH rfl) (Ent.el ⟨rfl, ?_, ?_, rfl, trivial⟩)⟩
          · rw [hst]; simp only [stepF, hsel, if_true, hd]; rfl
          · rw [hst]; simp only [stepF, hsel, if_true]; rfl
        · simp only [decide_eq_false_iff_not] at hd
          refine LWp.skip ⟨seen ++ [j], ⟨hn', hlt'⟩, by simp; omega, Ent.trans (Ent.ofH rfl) (Ent.el ⟨rfl, ?_, ?_, rfl, trivial⟩)⟩
          · rw [hst]; simp only [stepF, hsel, if_true, hd, if_false]; rfl
          · rw [hst]; simp only [stepF, hsel, if_true]; rfl
    · refine WOps.xd (gs := []) (hs := []) rfl trivial ?_
      refine LWp.seq (LWp.ite (b := false) rfl (fun h => by cases h) (fun _ => LWp.exit ⟨(), trivial, Ent.trans (Ent.dropH 0) (Ent.el ⟨?_, ?_, trivial⟩)⟩))
      · rw [← stOf_all (set := set) hk hn hlt (fun j hj => hall j (by simpa [encK] using hj))]; rfl
      · rw [← stOf_all (set := set) hk hn hlt (fun j hj => hall j (by simpa [encK] using hj))]; rfl
  · intro _ _
    refine LWp.sx (gs := []) (hs := []) rfl ⟨⟨rfl, rfl, rfl, Nat.le_refl 6⟩, trivial⟩ ?_
    refine LWp.ent (Ent.freezeLbox (t := 4) rfl) (LWp.ret ⟨.inr rfl, [], rfl, .many (by decide) ⟨.cellI (n := some 6) (cs := hcells (firstK es set).1) (upd_same _ _ _) (by kernel_rfl) rfl, .tmp rfl rfl, trivial⟩⟩)
end Go.Px

namespace Go.Px
open Go.Proofs

theorem enter_ok {b : Book} (hw : b.wf) {many : Int} (hm0 : 0 ≤ many) (hm1 : many ≤ 9223372036854775807) {l : List Int} (h : enterE b many l = 0) : Ev Try.prog 59 [.agg b.enc, I many, ints l] (.tup [lookP b, I 0]) := by
  have := enter_ev b hw many hm0 hm1 l
  rw [h, if_pos rfl] at this
  exact this
theorem enter_err {b : Book} (hw : b.wf) {many : Int} (hm0 : 0 ≤ many) (hm1 : many ≤ 9223372036854775807) {l : List Int} (h : ¬ enterE b many l = 0) : Ev Try.prog 59 [.agg b.enc, I many, ints l] (.tup [.v (.pointer none), I (enterE b many l)]) := by
  have := enter_ev b hw many hm0 hm1 l
  rw [if_neg h] at this
  exact this
theorem enterE_check {b : Book} {many : Int} {l : List Int} (h : enterE b many l = 0) : (check b).2.2 = 0 ∧ beyondB 0 (many - 1) l = false := by
  unfold enterE at h
  split at h
  · rename_i h1
    split at h
    · cases h
    · rename_i h2; exact ⟨h1, by simpa using h2⟩
  · rename_i h1; exact absurd h h1

/-- A book that Check takes: the bounds. -/
theorem check_n {b : Book} (h : (check b).2.2 = 0) : 1 ≤ b.n ∧ b.n ≤ 4 ∧ 1 ≤ b.al.length ∧ b.al.length ≤ 3 ∧ b.ss.length ≤ 5 := by
  unfold check at h
  split at h
  · simp at h
  rename_i h1
  split at h
  · simp at h
  rename_i h2
  simp only [beyondB, List.any_cons, List.any_nil, Bool.or_false, Bool.not_eq_true, Bool.or_eq_false_iff, decide_eq_false_iff_not] at h1 h2
  split at h
  · split at h
    · simp at h
    · omega
  · rename_i h3; exact absurd h h3

theorem length_flatMap_le {α β : Type} {f : α → List β} {c : Nat} : ∀ {l : List α}, (∀ x ∈ l, (f x).length ≤ c) → (l.flatMap f).length ≤ l.length * c
  | [], _ => by simp
  | x :: l, h => by
    have h1 := h x (by simp)
    have h2 := length_flatMap_le (l := l) (fun y hy => h y (by simp [hy]))
    simp only [List.flatMap_cons, List.length_append, List.length_cons, Nat.add_mul]
    omega
theorem hearL_length {n : Nat} (hn : n ≤ 4) : ∀ (xs : List Letter) (h : List Int), (hearL n xs h).length ≤ 5 ^ xs.length
  | [], h => by simp [hearL]
  | x :: xs, h => by
    have h1 := hearL_length hn xs h
    have h2 : (((List.range n).filter (fun (k : Nat) => givesB x.s k)).flatMap (fun (k : Nat) => hearL n xs (h ++ [(k : Int)]))).length ≤ ((List.range n).filter (fun (k : Nat) => givesB x.s k)).length * 5 ^ xs.length :=
      length_flatMap_le (fun k _ => hearL_length hn xs _)
    have h3 : ((List.range n).filter (fun (k : Nat) => givesB x.s k)).length ≤ 4 := Nat.le_trans (List.length_filter_le _ _) (by simp; omega)
    have h4 := Nat.mul_le_mul_right (5 ^ xs.length) h3
    simp only [hearL, List.length_append, List.length_cons, Nat.pow_succ]
    split
    · omega
    · simp only [List.length_nil]; omega
theorem kput_length (es : Kn) (h : List Int) (bit : Nat) : (kput es h bit).length ≤ es.length + 1 := by
  unfold kput
  cases kfind es h <;> simp
theorem kfold_length (bit : Nat) : ∀ (l : List (List Int)) (es : Kn), (l.foldl (fun es h => kput es h bit) es).length ≤ es.length + l.length
  | [], es => by simp
  | h :: l, es => by
    simp only [List.foldl_cons, List.length_cons]
    have := kfold_length bit l (kput es h bit)
    have := kput_length es h bit
    omega
theorem knownF_length {n : Nat} (hn : n ≤ 4) : ∀ (sps : List (List Letter)) (i : Nat) (es : Kn), (∀ xs ∈ sps, xs.length ≤ 5) → (knownF n sps i es).length ≤ es.length + sps.length * 3125
  | [], i, es, _ => by simp [knownF]
  | xs :: sps, i, es, h => by
    have h1 := knownF_length hn sps (i + 1) ((hearL n xs []).foldl (fun es h => kput es h (2 ^ i)) es) (fun y hy => h y (by simp [hy]))
    have h2 := kfold_length (2 ^ i) (hearL n xs []) es
    have h3 := hearL_length hn xs []
    have h4 : 5 ^ xs.length ≤ 5 ^ 5 := Nat.pow_le_pow_right (by omega) (h xs (by simp))
    simp only [knownF, List.length_cons]
    omega
theorem knownF_ok {n : Nat} (hn : n ≤ 64) : ∀ (sps : List (List Letter)) (i : Nat) (es : Kn), (∀ xs ∈ sps, xs.length ≤ 5) → i + sps.length ≤ 5 → KOK es → KOK (knownF n sps i es)
  | [], i, es, _, _, hk => hk
  | xs :: sps, i, es, h, hi, hk => by
    simp only [knownF, List.length_cons] at hi ⊢
    refine knownF_ok hn sps (i + 1) _ (fun y hy => h y (by simp [hy])) (by omega) ?_
    have hx := h xs (by simp)
    have hall : ∀ g ∈ hearL n xs [], HOK g := fun g hg => ⟨by
      have := hearL_len n xs [] g hg
      simp at this; omega, hearL_HOK hn xs [] g hg (by simp)⟩
    have hb : 2 ^ i < 32 := by
      have : 2 ^ i ≤ 2 ^ 4 := Nat.pow_le_pow_right (by omega) (by omega)
      omega
    generalize hearL n xs [] = l at hall
    induction l generalizing es with
    | nil => exact hk
    | cons g l ih =>
      simp only [List.foldl_cons]
      exact ih _ (kput_ok hk (hall g (by simp)) hb) (fun y hy => hall y (by simp [hy]))

theorem spsOf_len {b : Book} (hw : b.wf) (h : (check b).2.2 = 0) : ∀ xs ∈ spsOf b, xs.length ≤ 5 := by
  have ok := bookOK b hw h
  intro xs hx
  obtain ⟨i, hi⟩ := List.mem_iff_getElem?.1 hx
  obtain ⟨s, a, hs⟩ := ok.sp i xs hi
  have := hs.len
  have := hs.t5
  omega
theorem knownOf_ok {b : Book} (hw : b.wf) (h : (check b).2.2 = 0) : KOK (knownOf b) ∧ (knownOf b).length < 1000000 := by
  obtain ⟨n0, n1, _, _, h5⟩ := check_n h
  have hl := spsOf_len hw h
  have hsp : (spsOf b).length = b.ss.length := by simp [spsOf]
  refine ⟨knownF_ok (by omega) _ 0 [] hl (by omega) (by intro e he; cases he), ?_⟩
  have := knownF_length (n := b.n.toNat) (by omega) (spsOf b) 0 [] hl
  simp only [List.length_nil] at this
  unfold knownOf
  omega

/-- What Count returns. -/
def countR (b : Book) (i : Int) : Int × Int := if enterE b b.ss.length [i] = 0 then ((firstK (knownOf b) (2 ^ i.toNat)).2, 0) else (0, enterE b b.ss.length [i])
theorem book_len {b : Book} {C : Prop} (h : b.ss.length ≤ 9223372036854775807 → C) (h2 : b.ss.length ≤ 9223372036854775807) : C := h h2

theorem count_ev (b : Book) (hw : b.wf) (hs : b.ss.length ≤ 9223372036854775807) (i : Int) : Ev Try.prog 22 [.agg b.enc, I i] (.tup [I (countR b i).1, I (countR b i).2]) := by
  refine Ev.intro fn22 ?_
  refine LWp.sx (gs := []) (hs := [.ice]) rfl ⟨⟨rfl, rfl⟩, trivial⟩ ?_
  have hln : ((b.ss.map Spelling.enc).length : Int) = b.ss.length := by simp
  by_cases he : enterE b b.ss.length [i] = 0
  · obtain ⟨hc, hb⟩ := enterE_check he
    obtain ⟨hk, hkl⟩ := knownOf_ok hw hc
    obtain ⟨_, _, _, _, h5⟩ := check_n hc
    simp only [beyondB, List.any_cons, List.any_nil, Bool.or_false, Bool.or_eq_false_iff, decide_eq_false_iff_not] at hb
    have hp := pow2_le (k := i.toNat) (by omega)
    have hp0 : (0 : Int) < 2 ^ i.toNat := Int.pow_pos (by omega)
    have e1 : firstK (knownOf b) ((1 : Int) * 2 ^ i.toNat) = firstK (knownOf b) (2 ^ i.toNat) := by rw [Int.one_mul]
    refine LWp.sx (gs := []) (hs := [.ice, .ret (.tup [lookP b, I 0])]) rfl ⟨rfl, by rw [← hln] at he; exact enter_ok hw (by omega) (by omega) he, trivial⟩ ?_
    refine LWp.seq (LWp.seq ?_)
    refine LWp.x (gs := []) (hs := []) rfl trivial ?_
    refine LWp.ite (b := false) rfl (fun h => by cases h) (fun _ => LWp.skip ?_)
    refine LWp.sx (gs := []) (hs := [.ret (.tup [.agg (hcells (firstK (knownOf b) (2 ^ i.toNat)).1), I (firstK (knownOf b) (2 ^ i.toNat)).2]), .lin]) rfl ⟨⟨by omega, by omega, by omega, by omega⟩, by rw [← e1]; exact first_ev b _ hk hkl (1 * 2 ^ i.toNat) (by omega) (by omega), rfl, ⟨rfl, rfl, rfl, Nat.le_refl 6⟩, trivial⟩ ?_
    refine LWp.sx (gs := []) (hs := []) rfl trivial ?_
    refine LWp.ret (retT (.inr rfl) (.many (by decide) ⟨.tmp ?_ rfl, .tmp ?_ rfl, trivial⟩))
    · simp only [countR, he, if_true]; rfl
    · simp only [countR, he, if_true]; rfl
  · refine LWp.sx (gs := []) (hs := [.ice, .ret (.tup [.v (.pointer none), I (enterE b b.ss.length [i])])]) rfl ⟨rfl, by rw [← hln] at he ⊢; exact enter_err hw (by omega) (by omega) he, trivial⟩ ?_
    refine LWp.seq (LWp.seq ?_)
    refine LWp.x (gs := []) (hs := []) rfl trivial ?_
    refine LWp.ite rfl (fun h => ?_) (fun h => ?_)
    · refine LWp.sx (gs := []) (hs := []) rfl trivial ?_
      refine LWp.ret (retT (.inr rfl) (.many (by decide) ⟨.tmp ?_ rfl, .tmp ?_ rfl, trivial⟩))
      · simp only [countR, he, if_false]; rfl
      · simp only [countR, he, if_false]; rfl
    · simp only [bne_eq_false_iff_eq] at h
      exact absurd h he
end Go.Px

namespace Go.Px
open Go.Proofs

theorem enter_pow {b : Book} {i : Int} (hw : b.wf) (he : enterE b b.ss.length [i] = 0) : 0 ≤ i ∧ i < b.ss.length ∧ b.ss.length ≤ 5 ∧ (2 : Int) ^ i.toNat ≤ 16 ∧ (0 : Int) < 2 ^ i.toNat ∧ KOK (knownOf b) ∧ (knownOf b).length < 1000000 := by
  obtain ⟨hc, hb⟩ := enterE_check he
  obtain ⟨hk, hkl⟩ := knownOf_ok hw hc
  obtain ⟨_, _, _, _, h5⟩ := check_n hc
  simp only [beyondB, List.any_cons, List.any_nil, Bool.or_false, Bool.or_eq_false_iff, decide_eq_false_iff_not] at hb
  have hp0 : (0 : Int) < 2 ^ i.toNat := Int.pow_pos (by omega)
  have hp : (2 : Nat) ^ i.toNat ≤ 2 ^ 4 := Nat.pow_le_pow_right (by omega) (by omega)
  have hp' : (2 : Int) ^ i.toNat = ((2 ^ i.toNat : Nat) : Int) := by simp
  refine ⟨by omega, by omega, h5, by omega, hp0, hk, hkl⟩

theorem firstK_HOK {es : Kn} (hk : KOK es) (set : Int) : HOK (firstK es set).1 := by
  have h := (stOf_HOK (set := set) hk (List.range es.length)).1
  have e : stOf es set (List.range es.length) = firstK es set := stOf_all hk (List.nodup_range) (by simp) (by simp)
  rw [e] at h; exact h

/-- What First returns. -/
def firstR (b : Book) (i : Int) : List Int × Int := if enterE b b.ss.length [i] = 0 then ((firstK (knownOf b) (2 ^ i.toNat)).1, 0) else ([], enterE b b.ss.length [i])
theorem efirst_ev (b : Book) (hw : b.wf) (hs : b.ss.length ≤ 9223372036854775807) (i : Int) : Ev Try.prog 24 [.agg b.enc, I i] (.tup [ints (firstR b i).1, I (firstR b i).2]) := by
  refine Ev.intro fn24 ?_
  refine LWp.sx (gs := []) (hs := [.ice]) rfl ⟨⟨rfl, rfl⟩, trivial⟩ ?_
  have hln : ((b.ss.map Spelling.enc).length : Int) = b.ss.length := by simp
  by_cases he : enterE b b.ss.length [i] = 0
  · obtain ⟨i0, i1, h5, hp, hp0, hk, hkl⟩ := enter_pow hw he
    have e1 : firstK (knownOf b) ((1 : Int) * 2 ^ i.toNat) = firstK (knownOf b) (2 ^ i.toNat) := by rw [Int.one_mul]
    refine LWp.sx (gs := []) (hs := [.ice, .ret (.tup [lookP b, I 0])]) rfl ⟨rfl, by rw [← hln] at he; exact enter_ok hw (by omega) (by omega) he, trivial⟩ ?_
    refine LWp.seq (LWp.seq ?_)
    refine LWp.x (gs := []) (hs := []) rfl trivial ?_
    refine LWp.ite (b := false) rfl (fun h => by cases h) (fun _ => LWp.skip ?_)
    refine LWp.sx (gs := []) (hs := [.ret (.tup [.agg (hcells (firstK (knownOf b) (2 ^ i.toNat)).1), I (firstK (knownOf b) (2 ^ i.toNat)).2]), .lin]) rfl ⟨⟨by omega, by omega, by omega, by omega⟩, by rw [← e1]; exact first_ev b _ hk hkl (1 * 2 ^ i.toNat) (by omega) (by omega), rfl, ⟨rfl, rfl, rfl, Nat.le_refl 6⟩, trivial⟩ ?_
    refine LWp.sx (gs := []) (hs := [.ret (ints (firstK (knownOf b) (2 ^ i.toNat)).1)]) rfl ⟨list_ev _ (firstK_HOK hk _).1, trivial⟩ ?_
    refine LWp.ret (retT (.inr rfl) (.many (by decide) ⟨.tmp ?_ rfl, .tmp ?_ rfl, trivial⟩))
    · simp only [firstR, he, if_true]; rfl
    · simp only [firstR, he, if_true]; rfl
  · refine LWp.sx (gs := []) (hs := [.ice, .ret (.tup [.v (.pointer none), I (enterE b b.ss.length [i])])]) rfl ⟨rfl, by rw [← hln] at he ⊢; exact enter_err hw (by omega) (by omega) he, trivial⟩ ?_
    refine LWp.seq (LWp.seq ?_)
    refine LWp.x (gs := []) (hs := []) rfl trivial ?_
    refine LWp.ite rfl (fun h => ?_) (fun h => ?_)
    · refine LWp.sx (gs := []) (hs := []) rfl trivial ?_
      refine LWp.ent (Ent.nilSl (t := 4) 1 rfl) ?_
      refine LWp.ret (retT (.inr rfl) (.many (by decide) ⟨.tmp ?_ rfl, .tmp ?_ rfl, trivial⟩))
      · simp only [firstR, he, if_false]; rfl
      · simp only [firstR, he, if_false]; rfl
    · simp only [bne_eq_false_iff_eq] at h
      exact absurd h he

/-- The map of known sound strings is asked. -/
theorem op_lookup {es : Kn} (hk : KOK es) {h : List Int} (hh : HOK h) {x i : Operand} {env : Env} {H : Heap} {d : Nat} (hx : evO env x = .mi (encK es)) (hi : valOf (evO env i) = some (hval h)) :
    ∀ (r : Option Nat) (N : Nat) (D : List Nat), Q1 Try.prog r N (.lookup 110 x i false 99 3 [.int .i64 0]) (some d) env H D [(d, I (kval es h))] := by
  intro r N D
  exact Op1.lookupI hK zeroI hx hi hh.wide hk.ks (kmat hk) ⟨by show updO _ _ (lkRes false _ (kat es h)) = _; rw [kat_val]; rfl, rfl, rfl⟩

/-- What Reads returns. -/
def readsE (b : Book) (i : Int) (l : List Int) : Int := if enterE b b.ss.length [i] = 0 then hearE b.n l else enterE b b.ss.length [i]
def readsR (b : Book) (i : Int) (l : List Int) : Bool × Int := (decide (readsE b i l = 0) && givesB (kval (knownOf b) l) i, readsE b i l)
theorem hearE_HOK {n : Int} (hn : n ≤ 60) {l : List Int} (h : hearE n l = 0) : HOK l := by
  unfold hearE at h
  split at h
  · cases h
  split at h
  · cases h
  rename_i h1 h2
  refine ⟨by omega, ?_⟩
  intro v hv
  simp only [beyondB, Bool.not_eq_true, List.any_eq_false, Bool.or_eq_true, decide_eq_true_eq, not_or] at h2
  have := h2 v hv
  omega
theorem ereads_ev (b : Book) (hw : b.wf) (hs : b.ss.length ≤ 9223372036854775807) (i : Int) (l : List Int) : Ev Try.prog 27 [.agg b.enc, I i, ints l] (.tup [B (readsR b i l).1, I (readsR b i l).2]) := by
  refine Ev.intro fn27 ?_
  refine LWp.sx (gs := []) (hs := [.ice]) rfl ⟨⟨rfl, rfl⟩, trivial⟩ ?_
  have hln : ((b.ss.map Spelling.enc).length : Int) = b.ss.length := by simp
  by_cases he : enterE b b.ss.length [i] = 0
  · obtain ⟨i0, i1, h5, hp, hp0, hk, hkl⟩ := enter_pow hw he
    obtain ⟨n0, n1, _⟩ := check_n (enterE_check he).1
    have er : readsE b i l = hearE b.n l := by simp only [readsE, he, if_true]
    refine LWp.sx (gs := []) (hs := [.ice, .ret (.tup [lookP b, I 0])]) rfl ⟨rfl, by rw [← hln] at he; exact enter_ok hw (by omega) (by omega) he, trivial⟩ ?_
    refine LWp.seq (LWp.seq ?_)
    refine LWp.x (gs := []) (hs := []) rfl trivial ?_
    refine LWp.ite (b := false) rfl (fun h => by cases h) (fun _ => LWp.skip ?_)
    refine LWp.sx (gs := []) (hs := [.ret (.tup [.agg (hcells (if hearE b.n l = 0 then l else [])), I (hearE b.n l)]), .lin]) rfl ⟨hear_ev b _ l (by omega) (by omega), rfl, ⟨rfl, rfl, rfl, Nat.le_refl 6⟩, trivial⟩ ?_
    refine LWp.ent (Ent.freezeLbox (t := 10) rfl) ?_
    refine LWp.seq (LWp.seq ?_)
    refine LWp.x (gs := []) (hs := []) rfl trivial ?_
    refine LWp.ite rfl (fun h => ?_) (fun h => ?_)
    · simp only [bne_iff_ne, ne_eq] at h
      refine LWp.sx (gs := []) (hs := []) rfl trivial ?_
      refine LWp.ret (retT (.inr rfl) (.many (by decide) ⟨.tmp ?_ rfl, .tmp ?_ rfl, trivial⟩))
      · show B _ = B _
        simp only [readsR, er, h, decide_false, Bool.false_and]
      · show I _ = I _
        simp only [readsR, er]
    · simp only [bne_eq_false_iff_eq] at h
      rw [h, if_pos rfl]
      have hkv := kval_lt hk l
      have hh := hearE_HOK (by omega) h
      have hq : (0 : Int) ≤ (kval (knownOf b) l : Int) / 2 ^ i.toNat := Int.ediv_nonneg (by omega) (Int.le_of_lt hp0)
      have hq2 : (kval (knownOf b) l : Int) / 2 ^ i.toNat ≤ kval (knownOf b) l := Int.ediv_le_self _ (by omega)
      refine LWp.skip ?_
      refine LWp.sd (gs := []) (hs := [.op (I (kval (knownOf b) l))]) hmix rfl (by kernel_rfl) ⟨op_lookup hk hh rfl rfl, ⟨by omega, by omega, by omega⟩, ⟨⟨hq, by omega⟩, by omega, by omega⟩, trivial⟩ ?_
      refine LWp.ret (retT (.inr rfl) (.many (by decide) ⟨.tmp ?_ rfl, .tmp ?_ rfl, trivial⟩))
      · show B _ = B _
        simp only [readsR, er, h, decide_true, Bool.true_and]; rfl
      · show I _ = I _
        simp only [readsR, er, h]
  · have er : readsE b i l = enterE b b.ss.length [i] := by simp only [readsE, he, if_false]
    refine LWp.sx (gs := []) (hs := [.ice, .ret (.tup [.v (.pointer none), I (enterE b b.ss.length [i])])]) rfl ⟨rfl, by rw [← hln] at he ⊢; exact enter_err hw (by omega) (by omega) he, trivial⟩ ?_
    refine LWp.seq (LWp.seq ?_)
    refine LWp.x (gs := []) (hs := []) rfl trivial ?_
    refine LWp.ite rfl (fun h => ?_) (fun h => ?_)
    · simp only [bne_iff_ne, ne_eq] at h
      refine LWp.sx (gs := []) (hs := []) rfl trivial ?_
      refine LWp.ret (retT (.inr rfl) (.many (by decide) ⟨.tmp ?_ rfl, .tmp ?_ rfl, trivial⟩))
      · show B _ = B _
        simp only [readsR, er, h, decide_false, Bool.false_and]
      · show I _ = I _
        simp only [readsR, er]
    · simp only [bne_eq_false_iff_eq] at h
      exact absurd h he
end Go.Px

namespace Go.Px
open Go.Proofs

theorem enter_pow2 {b : Book} {l : List Int} (hw : b.wf) (he : enterE b b.ss.length l = 0) : (∀ i ∈ l, 0 ≤ i ∧ i < b.ss.length ∧ (2 : Int) ^ i.toNat ≤ 16 ∧ (0 : Int) < 2 ^ i.toNat) ∧ b.ss.length ≤ 5 ∧ KOK (knownOf b) ∧ (knownOf b).length < 1000000 := by
  obtain ⟨hc, hb⟩ := enterE_check he
  obtain ⟨hk, hkl⟩ := knownOf_ok hw hc
  obtain ⟨_, _, _, _, h5⟩ := check_n hc
  refine ⟨?_, h5, hk, hkl⟩
  intro i hi
  simp only [beyondB, List.any_eq_false, Bool.or_eq_true, decide_eq_true_eq, not_or] at hb
  have := hb i hi
  have hp0 : (0 : Int) < 2 ^ i.toNat := Int.pow_pos (by omega)
  have hp : (2 : Nat) ^ i.toNat ≤ 2 ^ 4 := Nat.pow_le_pow_right (by omega) (by omega)
  have hp' : (2 : Int) ^ i.toNat = ((2 ^ i.toNat : Nat) : Int) := by simp
  refine ⟨by omega, by omega, by omega, hp0⟩

theorem op_eqH {h g : List Int} (hh : HOK h) (hg : HOK g) {x y : Operand} {env : Env} {H : Heap} {d : Nat} (hx : valOf (evO env x) = some (hval h)) (hy : valOf (evO env y) = some (hval g)) :
    ∀ (r : Option Nat) (N : Nat) (D : List Nat), Q1 Try.prog r N (.eqT false 99 x y) (some d) env H D [(d, B (decide (h = g)))] := by
  intro r N D
  exact Op1.eqT (m := 5) (DD := 5) (by decide) (by kernel_rfl) (by kernel_rfl) (by kernel_rfl) (by kernel_rfl) hx hy hh.wide hg.wide (decide (h = g)) (by
    rw [decide_eq_true_iff]
    exact ⟨fun e => by rw [e], fun e => hval_inj hh.1 e⟩) ⟨rfl, rfl, rfl⟩

def alikeE (b : Book) (i j : Int) : Int := if enterE b b.ss.length [i, j] = 0 then (if i = j then 2 else 0) else enterE b b.ss.length [i, j]
def alikeM (kn : Kn) (i j : Int) : Int :=
  if (firstK kn (2 ^ i.toNat)).2 = 1 ∧ (firstK kn (2 ^ j.toNat)).2 = 1 ∧ (firstK kn (2 ^ i.toNat)).1 = (firstK kn (2 ^ j.toNat)).1 then 1
  else if (firstK kn ((2 ^ i.toNat ||| 2 ^ j.toNat : Nat) : Int)).2 = 0 then 2 else 0
def alikeR (b : Book) (i j : Int) : Int × Int := (if alikeE b i j = 0 then alikeM (knownOf b) i j else 0, alikeE b i j)

theorem ealike_ev (b : Book) (hw : b.wf) (hs : b.ss.length ≤ 9223372036854775807) (i j : Int) : Ev Try.prog 29 [.agg b.enc, I i, I j] (.tup [I (alikeR b i j).1, I (alikeR b i j).2]) := by
  refine Ev.intro fn29 ?_
  refine LWp.sx (gs := []) (hs := [.ice]) rfl ⟨⟨rfl, rfl⟩, trivial⟩ ?_
  have hln : ((b.ss.map Spelling.enc).length : Int) = b.ss.length := by simp
  by_cases he : enterE b b.ss.length [i, j] = 0
  · obtain ⟨hall, h5, hk, hkl⟩ := enter_pow2 hw he
    obtain ⟨i0, i1, hp, hp0⟩ := hall i (by simp)
    obtain ⟨j0, j1, hq, hq0⟩ := hall j (by simp)
    refine LWp.sx (gs := []) (hs := [.ice, .ret (.tup [lookP b, I 0])]) rfl ⟨rfl, by rw [← hln] at he; exact enter_ok hw (by omega) (by omega) he, trivial⟩ ?_
    refine LWp.blockX (fun _ : Unit => i ≠ j) (fun _ => el [(1, I i), (2, I j), (8, lookP b)]) (fun _ => []) (fun _ => []) ?_ ?_
    · refine LWp.sx (gs := []) (hs := []) rfl trivial ?_
      refine LWp.ite (b := false) rfl (fun h => by cases h) (fun _ => ?_)
      refine LWp.sx (gs := []) (hs := []) rfl trivial ?_
      refine LWp.ite rfl (fun hc => ?_) (fun hc => ?_)
      · simp only [beq_iff_eq] at hc
        have hz : alikeE b i j = 2 := by unfold alikeE; rw [if_pos he, if_pos hc]
        have hr : alikeR b i j = (0, 2) := by simp only [alikeR, hz]; rfl
        rw [hr]
        refine LWp.sx (gs := []) (hs := []) rfl trivial ?_
        refine LWp.ret (retT (.inr rfl) (.many (by decide) ⟨.tmp ?_ rfl, .tmp ?_ rfl, trivial⟩))
        · rfl
        · rfl
      · simp only [beq_eq_false_iff_ne, ne_eq] at hc
        exact LWp.skip ⟨(), hc, Ent.el ⟨rfl, rfl, rfl, trivial⟩⟩
    intro _ hne
    have hz : alikeE b i j = 0 := by simp [alikeE, he, hne]
    have e1 : firstK (knownOf b) ((1 : Int) * 2 ^ i.toNat) = firstK (knownOf b) (2 ^ i.toNat) := by rw [Int.one_mul]
    have e2 : firstK (knownOf b) ((1 : Int) * 2 ^ j.toNat) = firstK (knownOf b) (2 ^ j.toNat) := by rw [Int.one_mul]
    have e4 : ∀ k : Nat, ((1 : Int) * 2 ^ k).toNat = 2 ^ k := by
      intro k
      have : (1 : Int) * 2 ^ k = ((2 ^ k : Nat) : Int) := by simp
      rw [this]; rfl
    have hor : 2 ^ i.toNat ||| 2 ^ j.toNat < 2 ^ 5 := Nat.or_lt_two_pow (Nat.pow_lt_pow_right (by omega) (by omega)) (Nat.pow_lt_pow_right (by omega) (by omega))
    refine LWp.sx (gs := []) (hs := [.ret (.tup [.agg (hcells (firstK (knownOf b) (2 ^ i.toNat)).1), I (firstK (knownOf b) (2 ^ i.toNat)).2]), .lin]) rfl ⟨⟨by omega, by omega, by omega, by omega⟩, by rw [← e1]; exact first_ev b _ hk hkl (1 * 2 ^ i.toNat) (by omega) (by omega), rfl, ⟨rfl, rfl, rfl, Nat.le_refl 6⟩, trivial⟩ ?_
    refine LWp.ent (Ent.freezeLbox (t := 10) rfl) ?_
    refine LWp.sx (gs := []) (hs := [.ret (.tup [.agg (hcells (firstK (knownOf b) (2 ^ j.toNat)).1), I (firstK (knownOf b) (2 ^ j.toNat)).2]), .lin]) rfl ⟨⟨by omega, by omega, by omega, by omega⟩, by rw [← e2]; exact first_ev b _ hk hkl (1 * 2 ^ j.toNat) (by omega) (by omega), rfl, ⟨rfl, rfl, rfl, Nat.le_refl 6⟩, trivial⟩ ?_
    refine LWp.ent (Ent.freezeLbox (t := 12) rfl) ?_
    generalize hx : firstK (knownOf b) (2 ^ i.toNat) = x
    generalize hy : firstK (knownOf b) (2 ^ j.toNat) = y
    have hxo : HOK x.1 := by rw [← hx]; exact firstK_HOK hk _
    have hyo : HOK y.1 := by rw [← hy]; exact firstK_HOK hk _
    refine LWp.seq (LWp.seq ?_)
    refine LWp.cutT (fun _ : Unit => True) (fun _ => el [(10, .pi (hcells x.1)), (11, I x.2), (12, .pi (hcells y.1)), (13, I y.2), (15, I (firstK (knownOf b) ((2 ^ i.toNat ||| 2 ^ j.toNat : Nat) : Int)).2)]) (fun _ => []) (fun _ => []) ?_ ?_
    · refine LWp.dd (gs := []) (hs := [.ret (.tup [.agg (hcells (firstK (knownOf b) ((2 ^ i.toNat ||| 2 ^ j.toNat : Nat) : Int)).1), I (firstK (knownOf b) ((2 ^ i.toNat ||| 2 ^ j.toNat : Nat) : Int)).2]), .lin]) hmix rfl (by kernel_rfl) ⟨⟨by omega, by omega, by omega, by omega⟩, ⟨by omega, by omega, by omega, by omega⟩, ⟨⟨by omega, by omega⟩, by omega, by omega⟩, by rw [e4, e4]; exact first_ev b _ hk hkl _ (by omega) (by omega), rfl, ⟨rfl, rfl, rfl, Nat.le_refl 6⟩, trivial⟩ ?_
      exact ⟨(), trivial, Ent.el ⟨rfl, rfl, rfl, rfl, rfl, trivial⟩⟩
    intro _ _
    generalize hz3 : firstK (knownOf b) ((2 ^ i.toNat ||| 2 ^ j.toNat : Nat) : Int) = z
    have hm : alikeM (knownOf b) i j = if x.2 = 1 ∧ y.2 = 1 ∧ x.1 = y.1 then 1 else if z.2 = 0 then 2 else 0 := by
      simp only [alikeM, hx, hy, hz3]
    refine LWp.blockT (fun _ : Unit => alikeM (knownOf b) i j = 0) (fun _ => el []) (fun _ => []) (fun _ => []) ?_ ?_
    · refine LWp.cutX (fun _ : Unit => True) (fun _ => el [(15, I z.2), (59, B (decide (x.2 = 1 ∧ y.2 = 1 ∧ x.1 = y.1)))]) (fun _ => []) (fun _ => []) ?_ ?_
      · by_cases h1 : x.2 = 1
        · by_cases h2 : y.2 = 1
          · refine LWp.x (gs := [(62, true), (66, true)]) (hs := [.op (B (decide (x.1 = y.1)))]) rfl ⟨by simp [h1], by simp [h1], by simp [h1], by simp [h2], by simp [h2], ⟨by simp [h2], op_eqH hxo hyo rfl rfl⟩, by simp [h2], trivial⟩ ?_
            exact ⟨(), trivial, Ent.el ⟨rfl, by show B _ = B _; simp [h1, h2], trivial⟩⟩
          · refine LWp.x (gs := [(62, true), (66, false)]) (hs := []) rfl (by simp [h1]; try omega) ?_
            exact ⟨(), trivial, Ent.el ⟨rfl, by show B _ = B _; simp [h1, h2], trivial⟩⟩
        · refine LWp.x (gs := [(62, false), (66, false)]) (hs := []) rfl (by simp; try omega) ?_
          exact ⟨(), trivial, Ent.el ⟨rfl, by show B _ = B _; simp [h1], trivial⟩⟩
      intro _ _
      refine LWp.ite rfl (fun hc => ?_) (fun hc => ?_)
      · simp only [decide_eq_true_eq] at hc
        refine LWp.sx (gs := []) (hs := []) rfl trivial ?_
        refine LWp.ret (retT (.inr rfl) (.many (by decide) ⟨.tmp ?_ rfl, .tmp ?_ rfl, trivial⟩))
        · show I _ = I _
          simp only [alikeR, hz, if_true, hm, hc, and_self]
        · show I _ = I _; simp only [alikeR, hz]
      · simp only [decide_eq_false_iff_not] at hc
        refine LWp.sx (gs := []) (hs := []) rfl trivial ?_
        refine LWp.ite rfl (fun hd => ?_) (fun hd => ?_)
        · simp only [beq_iff_eq] at hd
          have hd' : z.2 = 0 := by omega
          refine LWp.sx (gs := []) (hs := []) rfl trivial ?_
          refine LWp.ret (retT (.inr rfl) (.many (by decide) ⟨.tmp ?_ rfl, .tmp ?_ rfl, trivial⟩))
          · show I _ = I _
            simp only [alikeR, hz, if_true, hm, if_neg hc, hd']
          · show I _ = I _; simp only [alikeR, hz]
        · simp only [beq_eq_false_iff_ne, ne_eq] at hd
          have hd' : ¬ z.2 = 0 := by omega
          exact LWp.skip ⟨(), by rw [hm, if_neg hc, if_neg hd'], Ent.el trivial⟩
    · intro _ h0
      refine LWp.sx (gs := []) (hs := []) rfl trivial ?_
      refine LWp.ret (retT (.inr rfl) (.many (by decide) ⟨.tmp ?_ rfl, .tmp ?_ rfl, trivial⟩))
      · show I _ = I _; simp only [alikeR, hz, if_true, h0]
      · show I _ = I _; simp only [alikeR, hz]
  · refine LWp.sx (gs := []) (hs := [.ice, .ret (.tup [.v (.pointer none), I (enterE b b.ss.length [i, j])])]) rfl ⟨rfl, by rw [← hln] at he ⊢; exact enter_err hw (by omega) (by omega) he, trivial⟩ ?_
    refine LWp.blockX (fun _ : Unit => False) (fun _ => el []) (fun _ => []) (fun _ => []) ?_ (fun _ h => h.elim)
    refine LWp.sx (gs := []) (hs := []) rfl trivial ?_
    refine LWp.ite rfl (fun h => ?_) (fun h => ?_)
    · refine LWp.sx (gs := []) (hs := []) rfl trivial ?_
      refine LWp.ret (retT (.inr rfl) (.many (by decide) ⟨.tmp ?_ rfl, .tmp ?_ rfl, trivial⟩))
      · show I _ = I _; simp only [alikeR, alikeE, he, if_false]
      · show I _ = I _; simp only [alikeR, alikeE, he, if_false]
    · simp only [bne_eq_false_iff_eq] at h
      exact absurd h he
end Go.Px

namespace Go.Px
open Go.Proofs

def ascB : List Int → Int → Bool
  | [], _ => true
  | n :: l, last => decide (last < n) && ascB l n
def setN : List Int → Nat → Nat
  | [], s => s
  | n :: l, s => setN l (s ||| 2 ^ n.toNat)
theorem one_pow (k : Nat) : ((1 : Int) * 2 ^ k).toNat = 2 ^ k := by
  have : (1 : Int) * 2 ^ k = ((2 ^ k : Nat) : Int) := by simp
  rw [this]; rfl

def commonR (b : Book) (l : List Int) : List Int × Int :=
  if enterE b b.ss.length l = 0 then
    (if ascB l (-1) = true ∧ setN l 0 ≠ 0 then
      (if (firstK (knownOf b) (setN l 0 : Int)).2 = 0 then ([], 9) else ((firstK (knownOf b) (setN l 0 : Int)).1, 0))
    else ([], 2))
  else ([], enterE b b.ss.length l)

theorem ecommon_ev (b : Book) (hw : b.wf) (hs : b.ss.length ≤ 9223372036854775807) (l : List Int) : Ev Try.prog 33 [.agg b.enc, ints l] (.tup [ints (commonR b l).1, I (commonR b l).2]) := by
  refine Ev.intro fn33 ?_
  refine LWp.slLen 1 rfl fun hll => ?_
  simp only [List.length_map] at hll
  refine LWp.sx (gs := []) (hs := [.ice]) rfl ⟨⟨rfl, rfl⟩, trivial⟩ ?_
  have hln : ((b.ss.map Spelling.enc).length : Int) = b.ss.length := by simp
  have err : ∀ (env : Env) (e : Int), commonR b l = ([], e) → env 4 = .nil → env 5 = I e → LWp Try.prog none 53 .ret (fun e env H D => e = .ret ∧ retP Try.prog [.tmp 4, .tmp 5] (.tup [ints (commonR b l).1, I (commonR b l).2]) .ret env H D) env [] [] := by
    intro env e h h4 h5
    rw [h]
    refine LWp.ent (Ent.nilSl (t := 4) 1 h4) ?_
    refine LWp.ret ⟨rfl, retT (.inr rfl) (.many (by decide) ⟨.tmp ?_ rfl, .tmp ?_ rfl, trivial⟩)⟩
    · rfl
    · rw [upd_other _ _ (by decide), h5]
  by_cases he : enterE b b.ss.length l = 0
  · obtain ⟨hall, h5, hk, hkl⟩ := enter_pow2 hw he
    refine LWp.sx (gs := []) (hs := [.ret (.tup [lookP b, I 0])]) rfl ⟨by rw [← hln] at he; exact enter_ok hw (by omega) (by omega) he, trivial⟩ ?_
    refine LWp.seq (LWp.seq ?_)
    refine LWp.x (gs := []) (hs := []) rfl trivial ?_
    refine LWp.ite (b := false) rfl (fun h => by cases h) (fun _ => LWp.skip ?_)
    refine LWp.sx (gs := []) (hs := []) rfl trivial ?_
    refine LWp.seq (LWp.seq ?_)
    refine LWp.x (gs := []) (hs := []) rfl trivial ?_
    refine LWp.blockT (fun s : Nat => s < 32 ∧ setN l 0 = s ∧ ascB l (-1) = true) (fun s => el [(6, lookP b), (8, I s)]) (fun _ => []) (fun _ => []) ?_ ?_
    · refine LWp.loopN (X := Nat × Nat × Int) (fun x => x.1 ≤ l.length ∧ x.2.1 < 32 ∧ setN l 0 = setN (l.drop x.1) x.2.1 ∧ ascB l (-1) = ascB (l.drop x.1) x.2.2) (fun x => el [(6, lookP b), (8, I x.2.1), (9, I x.2.2), (26, ints l), (27, I l.length), (28, I x.1)]) (fun _ => []) (fun _ => []) (fun x => l.length - x.1) (0, 0, -1) ⟨by simp, by simp, rfl, rfl⟩
        (Ent.el ⟨rfl, rfl, rfl, rfl, by show I _ = I _; simp, rfl, trivial⟩) ?_
      rintro ⟨k, s, last⟩ ⟨hk1, hs32, h1, h2⟩
      simp only at hk1 hs32 h1 h2 ⊢
      refine LWp.sx (gs := []) (hs := []) rfl trivial ?_
      refine LWp.seq (LWp.ite rfl (fun hc => ?_) (fun hc => ?_))
      · simp only [decide_eq_true_eq, Int.ofNat_lt] at hc
        obtain ⟨n, hn⟩ := ex_get hc
        rw [drop_cons hn] at h1 h2
        simp only [setN, ascB] at h1 h2
        obtain ⟨n0, n1, np, np0⟩ := hall n (List.mem_of_getElem? hn)
        have hor : s ||| 2 ^ n.toNat < 2 ^ 5 := Nat.or_lt_two_pow (by omega) (Nat.pow_lt_pow_right (by omega) (by omega))
        refine LWp.skip (LWp.seq (LWp.block ?_))
        refine LWp.sx (gs := []) (hs := [.cells [I n]]) rfl ⟨⟨by omega, by simp [hn]⟩, trivial⟩ ?_
        refine LWp.seq (LWp.seq ?_)
        refine LWp.x (gs := []) (hs := []) rfl trivial ?_
        refine LWp.ite rfl (fun hb => ?_) (fun hb => ?_)
        · simp only [decide_eq_true_eq] at hb
          refine LWp.sx (gs := []) (hs := []) rfl trivial ?_
          refine LWp.mono (err _ 2 ?_ rfl rfl) (by rintro e env H D ⟨rfl, h⟩; exact h)
          · have : decide (last < n) = false := by simp; omega
            rw [this, Bool.false_and] at h2
            simp only [commonR, he, h2, if_true, if_false, Bool.false_eq_true, false_and]
        · simp only [decide_eq_false_iff_not] at hb
          have h2' : decide (last < n) = true := by simp; omega
          rw [h2', Bool.true_and] at h2
          refine LWp.skip ?_
          refine LWp.x (gs := []) (hs := []) rfl ⟨⟨by omega, by omega, by omega, by omega⟩, ⟨⟨by omega, by omega⟩, by omega, by omega⟩, trivial⟩ ?_
          refine LWp.x (gs := []) (hs := []) rfl ⟨by omega, trivial⟩ ?_
          refine ⟨(k + 1, s ||| 2 ^ n.toNat, n), ⟨hc, by simp only; omega, h1, h2⟩, by simp only; omega, Ent.el ⟨rfl, ?_, rfl, rfl, rfl, rfl, trivial⟩⟩
          show I _ = I _
          rw [one_pow]; rfl
      · simp only [decide_eq_false_iff_not, Int.ofNat_lt] at hc
        rw [drop_nil hc] at h1 h2
        exact LWp.exit ⟨s, ⟨hs32, h1, h2⟩, Ent.el ⟨rfl, rfl, trivial⟩⟩
    · rintro s ⟨hs32, h1, h2⟩
      refine LWp.seq (LWp.seq ?_)
      refine LWp.x (gs := []) (hs := []) rfl trivial ?_
      refine LWp.ite rfl (fun hb => ?_) (fun hb => ?_)
      · simp only [beq_iff_eq] at hb
        refine LWp.sx (gs := []) (hs := []) rfl trivial ?_
        refine LWp.mono (err _ 2 ?_ rfl rfl) (by rintro e env H D ⟨rfl, h⟩; exact h)
        · have : s = 0 := by omega
          simp only [commonR, he, h2, h1, this, if_true, if_false, ne_eq, not_true_eq_false, and_false]
      · simp only [beq_eq_false_iff_ne, ne_eq] at hb
        have hs0 : ¬ s = 0 := by omega
        have hcr : commonR b l = if (firstK (knownOf b) (s : Int)).2 = 0 then ([], 9) else ((firstK (knownOf b) (s : Int)).1, 0) := by
          simp only [commonR, he, h2, h1, hs0, if_true, ne_eq, not_false_eq_true, and_self]
        refine LWp.skip ?_
        refine LWp.sx (gs := []) (hs := [.ret (.tup [.agg (hcells (firstK (knownOf b) (s : Int)).1), I (firstK (knownOf b) (s : Int)).2]), .lin]) rfl ⟨first_ev b _ hk hkl s (by omega) (by omega), rfl, ⟨rfl, rfl, rfl, Nat.le_refl 6⟩, trivial⟩ ?_
        refine LWp.ent (Ent.freezeLbox (t := 12) rfl) ?_
        refine LWp.seq (LWp.seq ?_)
        refine LWp.x (gs := []) (hs := []) rfl trivial ?_
        refine LWp.ite rfl (fun hd => ?_) (fun hd => ?_)
        · simp only [beq_iff_eq] at hd
          have hd' : (firstK (knownOf b) (s : Int)).2 = 0 := by omega
          refine LWp.sx (gs := []) (hs := []) rfl trivial ?_
          refine LWp.mono (err _ 9 (by rw [hcr, if_pos hd']) rfl rfl) (by rintro e env H D ⟨rfl, h⟩; exact h)
        · simp only [beq_eq_false_iff_ne, ne_eq] at hd
          have hd' : ¬ (firstK (knownOf b) (s : Int)).2 = 0 := by omega
          refine LWp.skip ?_
          refine LWp.sx (gs := []) (hs := [.ret (ints (firstK (knownOf b) (s : Int)).1)]) rfl ⟨list_ev _ (firstK_HOK hk _).1, trivial⟩ ?_
          rw [hcr, if_neg hd']
          refine LWp.ret (retT (.inr rfl) (.many (by decide) ⟨.tmp ?_ rfl, .tmp ?_ rfl, trivial⟩))
          · rfl
          · rfl
  · refine LWp.sx (gs := []) (hs := [.ret (.tup [.v (.pointer none), I (enterE b b.ss.length l)])]) rfl ⟨by rw [← hln] at he ⊢; exact enter_err hw (by omega) (by omega) he, trivial⟩ ?_
    refine LWp.seq (LWp.seq ?_)
    refine LWp.x (gs := []) (hs := []) rfl trivial ?_
    refine LWp.ite rfl (fun h => ?_) (fun h => ?_)
    · refine LWp.sx (gs := []) (hs := []) rfl trivial ?_
      refine LWp.mono (err _ (enterE b b.ss.length l) (by simp only [commonR, he, if_false]) rfl rfl) (by rintro e env H D ⟨rfl, h⟩; exact h)
    · simp only [bne_eq_false_iff_eq] at h
      exact absurd h he
end Go.Px

namespace Go.Px
open Go.Proofs

theorem lessL_trans' : ∀ {a b c : List Int}, lessL a b = true → lessL b c = true → lessL a c = true
  | _, _, [], _, g => by cases ‹List Int› <;> simp [lessL] at g
  | _, [], _ :: _, h, _ => by cases ‹List Int› <;> simp [lessL] at h
  | [], _ :: _, _ :: _, _, _ => by simp [lessL]
  | x :: a, y :: b, z :: c, h, g => by
    simp only [lessL] at h g ⊢
    have ih := lessL_trans' (a := a) (b := b) (c := c)
    by_cases e1 : x = y
    · subst e1
      simp only [if_true] at h
      by_cases e2 : x = z
      · subst e2; simp only [if_true] at g ⊢; exact ih h g
      · simp only [e2, if_false] at g ⊢; exact g
    · simp only [e1, if_false, decide_eq_true_eq] at h
      by_cases e2 : y = z
      · subst e2; simp [e1, h]
      · simp only [e2, if_false, decide_eq_true_eq] at g
        have : x ≠ z := by omega
        simp [this]; omega
theorem lessL_total' : ∀ {a b : List Int}, a ≠ b → lessL a b = false → lessL b a = true
  | [], [], h, _ => absurd rfl h
  | [], _ :: _, _, h => by simp [lessL] at h
  | _ :: _, [], _, _ => by simp [lessL]
  | x :: a, y :: b, h2, h => by
    simp only [lessL] at h ⊢
    by_cases e : x = y
    · subst e
      simp only [if_true] at h ⊢
      exact lessL_total' (fun e => h2 (by rw [e])) h
    · have e' : ¬ y = x := fun h => e h.symm
      simp only [e, e', if_false, decide_eq_false_iff_not, decide_eq_true_eq] at h ⊢
      omega
theorem fewerL_trans {a b c : List Int} (h : fewerL a b = true) (g : fewerL b c = true) : fewerL a c = true := by
  unfold fewerL at *
  by_cases h1 : a.length = b.length <;> by_cases h2 : b.length = c.length
  · rw [if_pos h1] at h; rw [if_pos h2] at g; rw [if_pos (by omega)]; exact lessL_trans' h g
  · rw [if_neg h2, decide_eq_true_iff] at g; rw [if_neg (by omega), decide_eq_true_iff]; omega
  · rw [if_neg h1, decide_eq_true_iff] at h; rw [if_neg (by omega), decide_eq_true_iff]; omega
  · rw [if_neg h1, decide_eq_true_iff] at h; rw [if_neg h2, decide_eq_true_iff] at g; rw [if_neg (by omega), decide_eq_true_iff]; omega
theorem fewerL_total {a b : List Int} (hne : a ≠ b) (h : fewerL a b = false) : fewerL b a = true := by
  unfold fewerL at *
  by_cases h1 : a.length = b.length
  · rw [if_pos h1] at h; rw [if_pos h1.symm]; exact lessL_total' hne h
  · rw [if_neg h1, decide_eq_false_iff_not] at h; rw [if_neg (fun e => h1 e.symm), decide_eq_true_iff]; omega
theorem fewerL_irrefl (a : List Int) : fewerL a a = false := by simp [fewerL, lessL_refl]
theorem fewerL_asymm {a b : List Int} (h : fewerL a b = true) : fewerL b a = false := by
  cases g : fewerL b a with
  | false => rfl
  | true => have := fewerL_trans h g; rw [fewerL_irrefl] at this; exact this.symm

/-- The lesser one of two lists. -/
def minL (b x : List Int) : List Int := if fewerL x b = true then x else b
theorem minL_comm (b x y : List Int) : minL (minL b x) y = minL (minL b y) x := by
  unfold minL
  by_cases h1 : fewerL x b = true <;> by_cases h2 : fewerL y b = true
  · rw [if_pos h1, if_pos h2]
    by_cases e : x = y
    · subst e; rfl
    · cases h3 : fewerL x y with
      | true => rw [fewerL_asymm h3]; rfl
      | false => rw [fewerL_total e h3]; rfl
  · have h2' : fewerL y b = false := by simpa using h2
    have h3 : fewerL y x = false := by
      cases h3 : fewerL y x with
      | false => rfl
      | true => rw [fewerL_trans h3 h1] at h2'; cases h2'
    simp [h1, h2', h3]
  · have h1' : fewerL x b = false := by simpa using h1
    have h3 : fewerL x y = false := by
      cases h3 : fewerL x y with
      | false => rfl
      | true => rw [fewerL_trans h3 h2] at h1'; cases h1'
    simp [h2, h1', h3]
  · simp [h1, h2]

/-- The spellings that are not among some. -/
def compl (n u : Nat) : Nat := (BitVec.ofNat 64 (2 ^ n - 1) &&& ~~~ BitVec.ofNat 64 u).toNat
theorem compl_le {n : Nat} (hn : n ≤ 5) (u : Nat) : compl n u ≤ 31 := by
  unfold compl
  have : 2 ^ n ≤ 2 ^ 5 := Nat.pow_le_pow_right (by omega) hn
  rw [BitVec.toNat_and, BitVec.toNat_ofNat, Nat.mod_eq_of_lt (by omega)]
  exact Nat.le_trans Nat.and_le_left (by omega)
def oddL (n u : Nat) : List Int := numsF (compl n u : Int) n
def oddOf (es : Kn) (n : Nat) (seen : List Nat) : List Int := (seen.filterMap fun j => es[j]?).foldl (fun best e => minL best (oddL n e.2)) (numsF ((2 : Int) ^ n - 1) n)
def oddK (es : Kn) (n : Nat) : List Int := es.foldl (fun best e => minL best (oddL n e.2)) (numsF ((2 : Int) ^ n - 1) n)
theorem oddOf_snoc {es : Kn} {n : Nat} {seen : List Nat} {j : Nat} {e : List Int × Nat} (h : es[j]? = some e) : oddOf es n (seen ++ [j]) = minL (oddOf es n seen) (oddL n e.2) := by
  simp [oddOf, List.filterMap_append, h, List.foldl_append]
theorem foldl_perm {α β : Type} {f : β → α → β} (hc : ∀ b x y, f (f b x) y = f (f b y) x) {l m : List α} (h : l.Perm m) : ∀ b, l.foldl f b = m.foldl f b := by
  induction h with
  | nil => intro b; rfl
  | cons x _ ih => intro b; simp only [List.foldl_cons]; exact ih _
  | swap x y l => intro b; simp only [List.foldl_cons]; rw [hc]
  | trans _ _ ih1 ih2 => intro b; rw [ih1, ih2]
theorem oddOf_all {es : Kn} {n : Nat} {seen : List Nat} (hn : seen.Nodup) (hlt : ∀ j ∈ seen, j < es.length) (hall : ∀ j, j < es.length → j ∈ seen) : oddOf es n seen = oddK es n := by
  have hp : seen.Perm (List.range es.length) := (List.perm_ext_iff_of_nodup hn List.nodup_range).2 (fun j => by
    rw [List.mem_range]; exact ⟨hlt j, hall j⟩)
  have h2 := hp.filterMap (fun j => es[j]?)
  rw [filterMap_range] at h2
  exact foldl_perm (α := List Int × Nat) (f := fun best e => minL best (oddL n e.2)) (fun b x y => minL_comm b _ _) h2 _

def oddR (b : Book) : List Int × Int := if (check b).2.2 = 0 then (oddK (knownOf b) b.ss.length, 0) else ([], (check b).2.2)
theorem enterE_nil (b : Book) (m : Int) : enterE b m [] = (check b).2.2 := by
  unfold enterE
  split
  · rename_i h; rw [h]; rfl
  · rfl

theorem eodd_ev (b : Book) (hw : b.wf) (hs : b.ss.length ≤ 9223372036854775807) : Ev Try.prog 31 [.agg b.enc] (.tup [ints (oddR b).1, I (oddR b).2]) := by
  refine Ev.intro fn31 ?_
  refine LWp.sx (gs := []) (hs := [.ice]) rfl ⟨⟨rfl, rfl⟩, trivial⟩ ?_
  have hln : ((b.ss.map Spelling.enc).length : Int) = b.ss.length := by simp
  by_cases he : (check b).2.2 = 0
  · obtain ⟨hk, hkl⟩ := knownOf_ok hw he
    obtain ⟨_, _, _, _, h5⟩ := check_n he
    have hen : enterE b 0 [] = 0 := by rw [enterE_nil, he]
    have hR : oddR b = (oddK (knownOf b) b.ss.length, 0) := by simp only [oddR, he, if_true]
    generalize hes : knownOf b = es at hk hkl hR
    refine LWp.sx (gs := []) (hs := [.retS [.agg b.enc, I 0, ints []] (.tup [bp b (.mi (encK es)), I 0])]) rfl ⟨⟨by rw [← hes]; exact enter_ok hw (by omega) (by omega) hen, .cons (.cons (.nilSl (.refl _)))⟩, trivial⟩ ?_
    refine LWp.seq (LWp.seq ?_)
    refine LWp.x (gs := []) (hs := []) rfl trivial ?_
    refine LWp.ite (b := false) rfl (fun h => by cases h) (fun _ => LWp.skip ?_)
    refine LWp.sx (gs := []) (hs := []) rfl trivial ?_
    generalize hnn : b.ss.length = n at h5 hR hln
    have hp1 : (2 : Int) ^ n ≤ 32 ∧ (0 : Int) < 2 ^ n := by
      have h1 : (2 : Nat) ^ n ≤ 2 ^ 5 := Nat.pow_le_pow_right (by omega) h5
      have h2 : (2 : Int) ^ n = ((2 ^ n : Nat) : Int) := by simp
      have h3 : 0 < 2 ^ n := Nat.pow_pos (by omega)
      omega
    have e0 : ∀ m : Int, m = n → (1 : Int) * 2 ^ m.toNat - 1 = 2 ^ n - 1 := by intro m hm; subst hm; simp
    have hnum : Ev Try.prog 74 [I ((1 : Int) * 2 ^ (((b.ss.map Spelling.enc).length : Nat) : Int).toNat - 1), I (((b.ss.map Spelling.enc).length : Nat) : Int)] (.lin 3 1 ((numsF ((2 : Int) ^ n - 1) n).map fun x => [I x])) := by
      rw [e0 _ hln, hln]
      exact numbers_ev _ n (by omega) (by omega) (by omega)
    have e1 : (1 : Int) * 2 ^ (((b.ss.map Spelling.enc).length : Nat) : Int).toNat = 2 ^ n := by rw [hln]; simp
    refine LWp.sx (gs := []) (hs := [.ret (.lin 3 1 ((numsF ((2 : Int) ^ n - 1) n).map fun x => [I x]))]) rfl ⟨⟨by omega, by omega, by omega, by omega⟩, ⟨by omega, by omega⟩, hnum, trivial⟩ ?_
    refine LWp.ent (Ent.freezeLin (t := 7) rfl) ?_
    refine LWp.seq (LWp.seq (LWp.ops ?_))
    refine WOps.xn (gs := []) (hs := []) 4 rfl rfl trivial ?_
    refine WOps.cons (Op1.rangeM rfl (fun bI m => ?_))
    refine WOps.xd (gs := []) (hs := []) rfl trivial ?_
    refine LWp.blockT (fun _ : Unit => True) (fun _ => el [(7, ints (oddK es n))]) (fun _ => []) (fun _ => []) ?_ ?_
    · refine LWp.loopN (X := List Nat) (fun seen => seen.Nodup ∧ (∀ j ∈ seen, j < es.length)) (fun seen => el [(6, I n), (7, ints (oddOf es n seen)), (31, .po bI 0)])
        (fun seen => [(bI, .miter m (encK es) seen)]) (fun _ => []) (fun seen => es.length - seen.length) [] ⟨by simp, by simp⟩ (Ent.el ⟨by show I _ = I _; rw [hln], rfl, rfl, trivial⟩) ?_
      rintro seen ⟨hn, hlt⟩
      refine LWp.seq (LWp.ops (WOps.cons (Op1.nextM (i := 0) rfl rfl (fun j kv p hj hje => ?_) (fun hall => ?_))))
      · have he' : (es.map fun e => (hval e.1, I e.2))[j]? = some (kv, p) := hje
        rw [List.getElem?_map, Option.map_eq_some_iff] at he'
        obtain ⟨⟨h, u⟩, hj2, he3⟩ := he'
        simp only [Prod.mk.injEq] at he3
        obtain ⟨rfl, rfl⟩ := he3
        have hjl := (List.getElem?_eq_some_iff.1 hj2).1
        obtain ⟨hh, hu⟩ := hk _ (List.mem_of_getElem? hj2)
        simp only at hh hu
        have hst := oddOf_snoc (n := n) (seen := seen) hj2
        have hn' : (seen ++ [j]).Nodup := by
          rw [List.nodup_append]
          exact ⟨hn, by simp, by intro a ha c hc e; simp only [List.mem_singleton] at hc; subst hc e; exact hj ha⟩
        have hlt' : ∀ i ∈ seen ++ [j], i < es.length := by
          intro i hi
          rcases List.mem_append.1 hi with hi | hi
          · exact hlt i hi
          · simp only [List.mem_singleton] at hi; subst hi; exact hjl
        have hsl' : (seen ++ [j]).length ≤ es.length := by
          have hs := List.Nodup.length_le_of_subset (l₂ := List.range es.length) hn' (fun j hj => List.mem_range.2 (hlt' j hj))
          simpa using hs
        simp only [List.length_append, List.length_cons, List.length_nil] at hsl'
        generalize oddOf es n seen = best at hst
        refine WOps.xd (gs := []) (hs := []) rfl trivial ?_
        refine LWp.seq (LWp.ite (b := true) rfl (fun _ => LWp.skip ?_) (fun h => by cases h))
        refine LWp.block (LWp.seq (LWp.ops (WOps.cons (Op1.entry (i := 0) rfl rfl hje ?_))))
        refine WOps.xd (gs := []) (hs := []) rfl trivial ?_
        have hcl : Ev Try.prog 74 [I (((BitVec.ofNat 64 ((1 : Int) * 2 ^ ((n : Nat) : Int).toNat - 1).toNat &&& ~~~ BitVec.ofNat 64 ((u : Nat) : Int).toNat).toNat : Nat) : Int), I n] (.lin 3 1 ((oddL n u).map fun x => [I x])) := by
          rw [e0 n rfl]
          have : ((2 : Int) ^ n - 1).toNat = 2 ^ n - 1 := by
            have h2 : (2 : Int) ^ n = ((2 ^ n : Nat) : Int) := by simp
            rw [h2]; omega
          rw [this]
          have := compl_le h5 u
          exact numbers_ev (compl n u) n (by omega) (by omega) (by omega)
        refine LWp.sx (gs := []) (hs := [.ret (.lin 3 1 ((oddL n u).map fun x => [I x]))]) rfl ⟨⟨by omega, by omega, by omega, by show (1 : Int) * 2 ^ n < _; omega⟩, ⟨by show _ ≤ (1 : Int) * 2 ^ n - 1; omega, by show (1 : Int) * 2 ^ n - 1 ≤ _; omega⟩, ⟨⟨by show 0 ≤ (1 : Int) * 2 ^ n - 1; omega, by show (1 : Int) * 2 ^ n - 1 < _; omega⟩, by omega⟩, hcl, trivial⟩ ?_
        refine LWp.ent (Ent.freezeLin (t := 10) rfl) ?_
        generalize oddL n u = l at hst
        refine LWp.cutX (fun _ : Unit => True) (fun _ => el [(6, I n), (7, ints best), (10, ints l), (31, .po bI 0), (60, B (fewerL l best))]) (fun _ => [(bI, .miter m (encK es) (seen ++ [j]))]) (fun _ => []) ?_ ?_
        · by_cases h1 : l.length < best.length
          · refine LWp.x (gs := [(48, true)]) (hs := []) rfl (by simp [h1]) ?_
            exact ⟨(), trivial, Ent.el ⟨rfl, rfl, rfl, rfl, by show B _ = B _; simp [fewerL, h1]; omega, trivial⟩⟩
          · by_cases h2 : l.length = best.length
            · refine LWp.x (gs := [(48, false), (54, true)]) (hs := [.ret (I (cmpL l best))]) rfl (by simp [h2]; exact compare_ev l best) ?_
              refine ⟨(), trivial, Ent.el ⟨rfl, rfl, rfl, rfl, ?_, trivial⟩⟩
              show B _ = B _
              have : decide (cmpL l best < 0) = lessL l best := by
                rw [Bool.eq_iff_iff, decide_eq_true_iff]; exact cmpL_lt l best
              rw [this]; simp [fewerL, h2]
            · have h2' : ¬ ((l.length : Int) = best.length) := by omega
              refine LWp.x (gs := [(48, false), (54, false)]) (hs := []) rfl (by simp [h1, h2']) ?_
              refine ⟨(), trivial, Ent.el ⟨rfl, rfl, rfl, rfl, ?_, trivial⟩⟩
              show B _ = B _
              simp [fewerL, h1, h2]
        intro _ _
        refine LWp.ite rfl (fun hd => ?_) (fun hd => ?_)
        · refine LWp.x (gs := []) (hs := []) rfl trivial ?_
          refine ⟨seen ++ [j], ⟨hn', hlt'⟩, by simp; omega, Ent.trans (Ent.ofH rfl) (Ent.el ⟨rfl, ?_, rfl, trivial⟩)⟩
          rw [hst, minL, if_pos hd]; rfl
        · refine LWp.skip ⟨seen ++ [j], ⟨hn', hlt'⟩, by simp; omega, Ent.trans (Ent.ofH rfl) (Ent.el ⟨rfl, ?_, rfl, trivial⟩)⟩
          rw [hst, minL, if_neg (by rw [hd]; simp)]; rfl
      · refine WOps.xd (gs := []) (hs := []) rfl trivial ?_
        refine LWp.seq (LWp.ite (b := false) rfl (fun h => by cases h) (fun _ => LWp.exit ⟨(), trivial, Ent.trans (Ent.dropH 0) (Ent.el ⟨?_, trivial⟩)⟩))
        rw [← oddOf_all (n := n) hn hlt (fun j hj => hall j (by simpa [encK] using hj))]; rfl
    · intro _ _
      refine LWp.sx (gs := []) (hs := []) rfl trivial ?_
      rw [hR]
      refine LWp.ret (retT (.inr rfl) (.many (by decide) ⟨.tmp ?_ rfl, .tmp ?_ rfl, trivial⟩))
      · rfl
      · rfl
  · have hen : ¬ enterE b 0 [] = 0 := by rw [enterE_nil]; exact he
    refine LWp.sx (gs := []) (hs := [.retS [.agg b.enc, I 0, ints []] (.tup [.v (.pointer none), I (enterE b 0 [])])]) rfl ⟨⟨enter_err hw (by omega) (by omega) hen, .cons (.cons (.nilSl (.refl _)))⟩, trivial⟩ ?_
    rw [enterE_nil] at hen ⊢
    refine LWp.seq (LWp.seq ?_)
    refine LWp.x (gs := []) (hs := []) rfl trivial ?_
    refine LWp.ite rfl (fun h => ?_) (fun h => ?_)
    · refine LWp.sx (gs := []) (hs := []) rfl trivial ?_
      refine LWp.ent (Ent.nilSl (t := 2) 1 rfl) ?_
      refine LWp.ret (retT (.inr rfl) (.many (by decide) ⟨.tmp ?_ rfl, .tmp ?_ rfl, trivial⟩))
      · simp only [oddR, he, if_false]; rfl
      · simp only [oddR, he, if_false]; rfl
    · simp only [bne_eq_false_iff_eq] at h
      exact absurd h he
end Go.Px

namespace Go.Px
open Go.Proofs

abbrev bytes (l : List UInt8) : AV := .sl 1 (l.map fun c => [U c.toNat])
/-- How two lists of bytes compare, by a function. -/
def cmpB (f : UInt8 → UInt8 → Int) : List UInt8 → List UInt8 → Int
  | [], [] => 0
  | [], _ :: _ => -1
  | _ :: _, [] => 1
  | a :: x, b :: y => if f a b = 0 then cmpB f x y else f a b

theorem compareFunc_ev (a b : List UInt8) (g : Nat) (caps : List AV) (f : UInt8 → UInt8 → Int) (hf : ∀ x y, Ev Try.prog g (U x.toNat :: U y.toNat :: caps) (I (f x y))) : Ev Try.prog 99 [bytes a, bytes b, .fn (.func g) [] caps] (I (cmpB f a b)) := by
  refine Ev.intro fn99 ?_
  refine LWp.slLen 0 rfl fun ha => ?_
  simp only [List.length_map] at ha
  refine LWp.sx (gs := []) (hs := []) rfl trivial ?_
  refine LWp.seq (LWp.seq ?_)
  refine LWp.x (gs := []) (hs := []) rfl trivial ?_
  refine LWp.blockT (fun _ : Unit => cmpB f a b = cmpB f [] (b.drop a.length) ∧ a.length ≤ b.length) (fun _ => el [(0, bytes a), (1, bytes b)]) (fun _ => []) (fun _ => []) ?_ ?_
  · refine LWp.loopN (fun k : Nat => k ≤ a.length ∧ k ≤ b.length ∧ cmpB f a b = cmpB f (a.drop k) (b.drop k)) (fun k => el [(0, bytes a), (1, bytes b), (2, .fn (.func g) [] caps), (11, bytes a), (12, I a.length), (13, I k)]) (fun _ => []) (fun _ => []) (fun k => a.length - k) 0 ⟨by omega, by omega, rfl⟩
      (Ent.el ⟨rfl, rfl, rfl, rfl, by show I _ = I _; simp, rfl, trivial⟩) ?_
    rintro k ⟨h1, h2, h3⟩
    refine LWp.sx (gs := []) (hs := []) rfl trivial ?_
    refine LWp.seq (LWp.ite rfl (fun hc => ?_) (fun hc => ?_))
    · simp only [decide_eq_true_eq, Int.ofNat_lt] at hc
      obtain ⟨x, hx⟩ := ex_get hc
      refine LWp.skip (LWp.seq (LWp.block ?_))
      refine LWp.sx (gs := []) (hs := [.cells [U x.toNat]]) rfl ⟨⟨by omega, by simp [hx]⟩, trivial⟩ ?_
      refine LWp.seq (LWp.seq ?_)
      refine LWp.x (gs := []) (hs := []) rfl trivial ?_
      refine LWp.ite rfl (fun hb => ?_) (fun hb => ?_)
      · simp only [List.length_map, ge_iff_le, decide_eq_true_eq, Int.ofNat_le] at hb
        refine LWp.sx (gs := []) (hs := []) rfl trivial ?_
        refine LWp.ret (retT (.inr rfl) (.one (.tmp ?_ rfl)))
        show I _ = I _
        rw [h3, drop_cons hx, drop_nil (l := b) (by omega)]; rfl
      · simp only [List.length_map, ge_iff_le, decide_eq_false_iff_not, Int.ofNat_le] at hb
        have hb' : k < b.length := by omega
        obtain ⟨y, hy⟩ := ex_get hb'
        rw [drop_cons hx, drop_cons hy, cmpB] at h3
        refine LWp.skip ?_
        refine LWp.sx (gs := []) (hs := [.cells [U y.toNat]]) rfl ⟨⟨by omega, by simp [hy]⟩, trivial⟩ ?_
        refine LWp.sx (gs := []) (hs := [.ret (I (f x y))]) rfl ⟨hf x y, trivial⟩ ?_
        refine LWp.seq ?_
        refine LWp.x (gs := []) (hs := []) rfl trivial ?_
        refine LWp.ite rfl (fun hd => ?_) (fun hd => ?_)
        · simp only [bne_iff_ne, ne_eq] at hd
          refine LWp.sx (gs := []) (hs := []) rfl trivial ?_
          refine LWp.ret (retT (.inr rfl) (.one (.tmp ?_ rfl)))
          show I _ = I _
          rw [h3, if_neg hd]
        · simp only [bne_eq_false_iff_eq] at hd
          rw [if_pos hd] at h3
          refine LWp.skip ?_
          refine LWp.x (gs := []) (hs := []) rfl ⟨by omega, trivial⟩ ?_
          exact ⟨k + 1, ⟨hc, hb', h3⟩, by omega, Ent.el ⟨rfl, rfl, rfl, rfl, rfl, rfl, trivial⟩⟩
    · simp only [decide_eq_false_iff_not, Int.ofNat_lt] at hc
      have : k = a.length := by omega
      subst this
      exact LWp.exit ⟨(), ⟨by rw [h3]; simp, h2⟩, Ent.el ⟨rfl, rfl, trivial⟩⟩
  · rintro _ ⟨h3, h2⟩
    refine LWp.seq (LWp.seq ?_)
    refine LWp.x (gs := []) (hs := []) rfl trivial ?_
    refine LWp.ite rfl (fun hb => ?_) (fun hb => ?_)
    · simp only [List.length_map, decide_eq_true_eq, Int.ofNat_lt] at hb
      obtain ⟨y, hy⟩ := ex_get hb
      refine LWp.sx (gs := []) (hs := []) rfl trivial ?_
      refine LWp.ret (retT (.inr rfl) (.one (.tmp ?_ rfl)))
      show I _ = I _
      rw [h3, drop_cons hy]; rfl
    · simp only [List.length_map, decide_eq_false_iff_not, Int.ofNat_lt] at hb
      refine LWp.skip ?_
      refine LWp.sx (gs := []) (hs := []) rfl trivial ?_
      refine LWp.ret (retT (.inr rfl) (.one (.tmp ?_ rfl)))
      show I _ = I _
      rw [h3, drop_nil hb]; rfl

theorem idxF_range {α : Type} (p : α → Bool) : ∀ (l : List α) (k : Int), 0 ≤ k → -1 ≤ idxF p l k ∧ idxF p l k < k + l.length + 1
  | [], k, h => by simp only [idxF, List.length_nil]; omega
  | x :: l, k, h => by
    have ih := idxF_range p l (k + 1) (by omega)
    simp only [idxF, List.length_cons]
    split <;> omega
def ordF (ls : List Letter) (a b : UInt8) : Int := indexC ls a.toNat - indexC ls b.toNat
theorem order1_ev (ls : List Letter) (hl : ls.length ≤ 1000) (a b : UInt8) : Ev Try.prog 100 [U a.toNat, U b.toNat, .pi [letters ls]] (I (ordF ls a b)) := by
  have h1 := idxF_range (fun x : Letter => x.c == (a.toNat : Int)) ls 0 (by omega)
  have h2 := idxF_range (fun x : Letter => x.c == (b.toNat : Int)) ls 0 (by omega)
  refine Ev.intro fn100 ?_
  refine LWp.sx (gs := []) (hs := []) rfl trivial ?_
  refine LWp.seq ?_
  refine LWp.dd (gs := []) (hs := [.ret (I (indexC ls a.toNat)), .ret (I (indexC ls b.toNat))]) hmix rfl (by kernel_rfl) ⟨index_ev ls a.toNat, index_ev ls b.toNat, ⟨by unfold indexC; omega, by unfold indexC; omega⟩, trivial⟩ ?_
  refine LWp.ret (retT (.inr rfl) (.one (.tmp ?_ rfl)))
  rfl
theorem op_convSB {x : Operand} {env : Env} {H : Heap} {d : Nat} {l : List UInt8} (hx : evO env x = Str l) (hsz : l.length ≤ 9223372036854775807) : ∀ (r : Option Nat) (N : Nat) (D : List Nat), Q1 Try.prog r N (.conv 9 51 x) (some d) env H D [(d, bytes l)] := by
  intro r N D
  exact Op1.convSB (E := 5) hx (by kernel_rfl) (by kernel_rfl) (by kernel_rfl) hsz ⟨rfl, rfl, rfl⟩
theorem order_ev (ls : List Letter) (hl : ls.length ≤ 1000) (a b : List UInt8) (ha : a.length ≤ 9223372036854775807) (hb : b.length ≤ 9223372036854775807) : Ev Try.prog 79 [letters ls, Str a, Str b] (I (cmpB (ordF ls) a b)) := by
  refine Ev.intro fn79 ?_
  refine LWp.sx (gs := []) (hs := [.ice]) rfl ⟨⟨rfl, rfl⟩, trivial⟩ ?_
  refine LWp.sx (gs := []) (hs := [.op (bytes a), .op (bytes b), .ret (I (cmpB (ordF ls) a b))]) rfl ⟨op_convSB rfl ha, op_convSB rfl hb, compareFunc_ev a b _ _ _ (fun x y => order1_ev ls hl x y), trivial⟩ ?_
  refine LWp.ret (retT (.inr rfl) (.one (.tmp ?_ rfl)))
  rfl
end Go.Px

namespace Go.Px
open Go.Proofs

/-- The one of two texts that comes first. -/
def wrC (ls : List Letter) (s t : Option (List UInt8)) : Option (List UInt8) := match t, s with
  | none, s => s
  | some t, none => some t
  | some t, some s => if cmpB (ordF ls) t s < 0 then some t else some s
/-- The first text of so many letters that is heard so from a place on. -/
def wr (ls : List Letter) (hd : List Int) : Nat → Nat → Option (List UInt8)
  | 0, done => if done = hd.length then some [] else none
  | m + 1, done => ls.findSome? fun x => (wrC ls (if x.q = true then wr ls hd m done else none) (if done < hd.length ∧ givesB x.s (hd.getD done 0) = true then wr ls hd m (done + 1) else none)).map (x.c.toNat.toUInt8 :: ·)

abbrev wrAV (o : Option (List UInt8)) : AV := .tup [Str (o.getD []), B o.isSome]
def LsOK (ls : List Letter) : Prop := ls.length ≤ 1000 ∧ ∀ x ∈ ls, 97 ≤ x.c ∧ x.c ≤ 122 ∧ 0 ≤ x.s ∧ x.s < 9223372036854775808
theorem wrC_len {ls : List Letter} {s t : Option (List UInt8)} {n : Nat} (hs : ∀ a, s = some a → a.length = n) (ht : ∀ a, t = some a → a.length = n) : ∀ a, wrC ls s t = some a → a.length = n := by
  intro a h
  unfold wrC at h
  split at h
  · exact hs a h
  · exact ht a h
  · split at h
    · exact ht a h
    · exact hs a h
theorem wr_len {ls : List Letter} {hd : List Int} : ∀ {m done : Nat} {a : List UInt8}, wr ls hd m done = some a → a.length = m
  | 0, done, a, h => by
    simp only [wr] at h
    split at h
    · cases h; rfl
    · cases h
  | m + 1, done, a, h => by
    simp only [wr] at h
    obtain ⟨x, _, hx⟩ := List.exists_of_findSome?_eq_some h
    simp only [Option.map_eq_some_iff] at hx
    obtain ⟨s, hs, rfl⟩ := hx
    simp only [List.length_cons, Nat.add_right_cancel_iff]
    refine wrC_len ?_ ?_ s hs
    · intro a ha
      split at ha
      · exact wr_len ha
      · cases ha
    · intro a ha
      split at ha
      · exact wr_len ha
      · cases ha

theorem retR2 {P : Program} {env : Env} {H : Heap} {t1 t2 : Nat} (p1 p2 : AV) {R : AV → Heap → Prop} (h1 : env t1 = p1) (n1 : p1.isLin = false) (h2 : env t2 = p2) (n2 : p2.isLin = false) (hR : R (.tup [p1, p2]) H) : retR P [.tmp t1, .tmp t2] R .ret env H [] :=
  ⟨.inr rfl, H, _, H, rfl, .many (by simp) (show All2 (ResAV P env H) [.tmp t1, .tmp t2] [p1, p2] from ⟨.tmp h1 n1, .tmp h2 n2, trivial⟩), hR, List.Sublist.refl _⟩
theorem utf8_ascii {n : Int} (h0 : 97 ≤ n) (h1 : n ≤ 122) : Utf8.encode n = ⟨#[n.toNat.toUInt8]⟩ := by
  have h : ∀ k : Fin 26, Utf8.encode (97 + (k.1 : Int)) = ⟨#[(97 + k.1).toUInt8]⟩ := by decide +kernel
  have := h ⟨(n - 97).toNat, by omega⟩
  have e1 : (97 : Int) + ((n - 97).toNat : Int) = n := by omega
  have e2 : 97 + (n - 97).toNat = n.toNat := by omega
  rw [e1, e2] at this
  exact this
theorem op_rune {x : Operand} {env : Env} {H : Heap} {d : Nat} {n : Int} (hx : evO env x = .v (.int .i32 n)) (h0 : 97 ≤ n) (h1 : n ≤ 122) : ∀ (r : Option Nat) (N : Nat) (D : List Nat), Q1 Try.prog r N (.conv 21 9 x) (some d) env H D [(d, Str [n.toNat.toUInt8])] := by
  intro r N D
  have := Op1.convRune (P := Try.prog) (r := r) (N := N) (H := H) (D := D) (dst := some d) (A := 21) (T := 9) (d := .int .i32) (K := fun e h d' => e = updL env [(d, Str [n.toNat.toUInt8])] ∧ h = H ∧ d' = D) hx (by kernel_rfl) (by kernel_rfl)
    (by rw [utf8_ascii h0 h1]; exact ⟨rfl, rfl, rfl⟩)
  exact this
theorem str_append (a b : List UInt8) : (⟨a.toArray⟩ : ByteArray) ++ ⟨b.toArray⟩ = ⟨(a ++ b).toArray⟩ := by
  apply ByteArray.ext
  show (ByteArray.append _ _).data = _
  simp

def writeF (ls : List Letter) (hd : List Int) (b4 : Nat) : AV := .fn (.func 77) [] [.pi (hcells hd), .pi [letters ls], .po b4 0]
abbrev writeH (ls : List Letter) (hd : List Int) (b4 : Nat) : Heap := [(b4, .cells 122 [writeF ls hd b4])]

theorem findSome_drop {α β : Type} {f : α → Option β} {l : List α} {k : Nat} {x : α} (hx : l[k]? = some x) : (l.drop k).findSome? f = (match f x with | some y => some y | none => (l.drop (k + 1)).findSome? f) := by
  rw [drop_cons hx, List.findSome?_cons]
  cases f x <;> rfl

theorem write_ev (ls : List Letter) (hl : LsOK ls) (hd : List Int) (hh : HOK hd) (b4 : Nat) : ∀ (m : Nat), m ≤ 5 → ∀ done : Nat, done ≤ 5 →
    EvR Try.prog 77 [I done, I m, .pi (hcells hd), .pi [letters ls], .po b4 0] (writeH ls hd b4) (fun r Ho => r = wrAV (wr ls hd m done) ∧ Ho = writeH ls hd b4) := by
  intro m
  have hh5 := hh.1
  induction m with
  | zero =>
    intro _ done hdn
    refine EvR.intro fn77 ?_
    refine LWp.sx (gs := []) (hs := []) rfl trivial ?_
    refine LWp.seq (LWp.seq ?_)
    refine LWp.x (gs := []) (hs := []) rfl trivial ?_
    refine LWp.ite (b := true) rfl (fun _ => ?_) (fun h => by cases h)
    refine LWp.sd (gs := []) (hs := []) hmix rfl (by kernel_rfl) trivial ?_
    refine LWp.ret (retR2 (Str []) (B (decide (done = hd.length))) rfl rfl ?_ rfl ⟨?_, rfl⟩)
    · show B _ = B _
      have : ((done : Int) == hd.length) = decide (done = hd.length) := by rw [Bool.eq_iff_iff]; simp; omega
      rw [this]
    · simp only [wr]
      by_cases h : done = hd.length
      · rw [if_pos h, decide_eq_true h]; rfl
      · rw [if_neg h, decide_eq_false h]; rfl
  | succ m ih =>
    intro hm done hdn
    have ihm := ih (by omega)
    have em : ((m + 1 : Nat) : Int) - 1 = m := by omega
    refine EvR.intro fn77 ?_
    refine LWp.sx (gs := []) (hs := []) rfl trivial ?_
    refine LWp.seq (LWp.seq ?_)
    refine LWp.x (gs := []) (hs := []) rfl trivial ?_
    refine LWp.ite rfl (fun h => ?_) (fun _ => LWp.skip ?_)
    · have h : (((m + 1 : Nat) : Int) == 0) = true := h
      simp at h; omega
    refine LWp.seq (LWp.seq ?_)
    refine LWp.x (gs := []) (hs := []) rfl trivial ?_
    generalize hf : (fun x : Letter => (wrC ls (if x.q = true then wr ls hd m done else none) (if done < hd.length ∧ givesB x.s (hd.getD done 0) = true then wr ls hd m (done + 1) else none)).map (x.c.toNat.toUInt8 :: ·)) = f
    have hw : wr ls hd (m + 1) done = ls.findSome? f := by rw [← hf]; rfl
    refine LWp.blockT (fun _ : Unit => wr ls hd (m + 1) done = none) (fun _ => el []) (fun _ => writeH ls hd b4) (fun _ => []) ?_ ?_
    · refine LWp.loopN (fun k : Nat => k ≤ ls.length ∧ wr ls hd (m + 1) done = (ls.drop k).findSome? f) (fun k => el [(0, I done), (1, I (m + 1 : Nat)), (2, .pi (hcells hd)), (3, .pi [letters ls]), (4, .po b4 0), (21, letters ls), (22, I ls.length), (23, I k)]) (fun _ => writeH ls hd b4) (fun _ => []) (fun k => ls.length - k) 0 ⟨by omega, hw⟩
        (Ent.el ⟨rfl, rfl, rfl, rfl, rfl, rfl, by show I _ = I _; simp, rfl, trivial⟩) ?_
      rintro k ⟨hk, hi⟩
      refine LWp.sx (gs := []) (hs := []) rfl trivial ?_
      refine LWp.seq (LWp.ite rfl (fun hc => ?_) (fun hc => ?_))
      · simp only [decide_eq_true_eq, Int.ofNat_lt] at hc
        obtain ⟨x, hx⟩ := ex_get hc
        rw [findSome_drop hx] at hi
        obtain ⟨c0, c1, s0, s1⟩ := hl.2 x (List.mem_of_getElem? hx)
        refine LWp.skip (LWp.seq (LWp.block ?_))
        refine LWp.sx (gs := []) (hs := [.cells x.enc, .lin]) rfl ⟨⟨by omega, by simp [hx]⟩, rfl, ⟨rfl, rfl, rfl, by decide⟩, trivial⟩ ?_
        refine LWp.ent (Ent.freezeLbox (t := 10) rfl) ?_
        refine LWp.sx (gs := []) (hs := []) rfl trivial ?_
        generalize hS : (if x.q = true then wr ls hd m done else none) = S
        refine LWp.cutX (fun _ : Unit => True) (fun _ => el [(0, I done), (1, I (m + 1 : Nat)), (2, .pi (hcells hd)), (3, .pi [letters ls]), (4, .po b4 0), (21, letters ls), (22, I ls.length), (23, I k), (10, .pi x.enc), (11, Str (S.getD [])), (12, B S.isSome)]) (fun _ => writeH ls hd b4) (fun _ => []) ?_ ?_
        · refine LWp.sx (gs := []) (hs := []) rfl trivial ?_
          refine LWp.ite rfl (fun hq => ?_) (fun hq => ?_)
          · rw [if_pos hq] at hS
            refine LWp.ops ?_
            refine WOps.xn (gs := []) (hs := [.at 0]) 4 rfl rfl ⟨rfl, by omega, trivial⟩ ?_
            refine WOps.cons (Op1.callvR (Hin := writeH ls hd b4) (H0 := []) rfl (by have := ihm done hdn; rw [← em] at this; exact this) rfl rfl (SubL.refl _) (by simp) ?_)
            rintro res Hout ⟨rfl, rfl⟩
            refine WOps.xd (gs := []) (hs := []) rfl trivial ?_
            refine ⟨(), trivial, Ent.trans (Ent.ofH ?_) (Ent.el ⟨rfl, rfl, rfl, rfl, rfl, rfl, rfl, rfl, rfl, ?_, ?_, trivial⟩)⟩
            · simp
            · rw [hS]; rfl
            · rw [hS]; rfl
          · rw [if_neg (by rw [hq]; simp)] at hS
            subst hS
            refine LWp.skip ⟨(), trivial, Ent.el ⟨rfl, rfl, rfl, rfl, rfl, rfl, rfl, rfl, rfl, rfl, rfl, trivial⟩⟩
        intro _ _
        generalize hT : (if done < hd.length ∧ givesB x.s (hd.getD done 0) = true then wr ls hd m (done + 1) else none) = T
        have hfx : f x = (wrC ls S T).map (x.c.toNat.toUInt8 :: ·) := by rw [← hf]; simp only [hS, hT]
        have hSl : (S.getD []).length ≤ 5 := by
          cases hs : S with
          | none => simp
          | some a =>
            rw [hs] at hS
            split at hS
            · have := wr_len hS; simp; omega
            · cases hS
        have hTl : (T.getD []).length ≤ 5 := by
          cases hs : T with
          | none => simp
          | some a =>
            rw [hs] at hT
            split at hT
            · have := wr_len hT; simp; omega
            · cases hT
        refine LWp.cutX (fun _ : Unit => True) (fun _ => el [(0, I done), (1, I (m + 1 : Nat)), (2, .pi (hcells hd)), (3, .pi [letters ls]), (4, .po b4 0), (21, letters ls), (22, I ls.length), (23, I k), (10, .pi x.enc), (11, Str ((wrC ls S T).getD [])), (12, B (wrC ls S T).isSome)]) (fun _ => writeH ls hd b4) (fun _ => []) ?_ ?_
        · refine LWp.cutX (fun _ : Unit => True) (fun _ => el [(0, I done), (1, I (m + 1 : Nat)), (2, .pi (hcells hd)), (3, .pi [letters ls]), (4, .po b4 0), (21, letters ls), (22, I ls.length), (23, I k), (10, .pi x.enc), (11, Str (S.getD [])), (12, B S.isSome), (48, B (decide (done < hd.length ∧ givesB x.s (hd.getD done 0) = true)))]) (fun _ => writeH ls hd b4) (fun _ => []) ?_ ?_
          · by_cases hlt : done < hd.length
            · have hg := hh.get done
              have hgv : Ev Try.prog 78 [.agg x.enc, I (hd.getD done 0)] (B (givesB x.s (hd.getD done 0))) := gives_ev x _ s0 s1 hg.1 hg.2
              have h5 : done = 0 ∨ done = 1 ∨ done = 2 ∨ done = 3 ∨ done = 4 := by omega
              rcases h5 with rfl | rfl | rfl | rfl | rfl
              all_goals
                refine LWp.dd (gs := [(41, true)]) (hs := [.ret (B (givesB x.s (hd.getD _ 0)))]) hmix rfl (by kernel_rfl) ⟨by simp; omega, by simp; omega, by simp; omega, ⟨by simp; omega, by omega, by decide⟩, by simp; omega, ⟨by simp; omega, hgv⟩, by simp; omega, trivial⟩ ?_
                exact ⟨(), trivial, Ent.el ⟨rfl, rfl, rfl, rfl, rfl, rfl, rfl, rfl, rfl, rfl, rfl, by show B _ = B _; simp [hlt], trivial⟩⟩
            · refine LWp.dd (gs := [(41, false)]) (hs := []) hmix rfl (by kernel_rfl) (by simp; omega) ?_
              exact ⟨(), trivial, Ent.el ⟨rfl, rfl, rfl, rfl, rfl, rfl, rfl, rfl, rfl, rfl, rfl, by show B _ = B _; simp [hlt], trivial⟩⟩
          intro _ _
          refine LWp.ite rfl (fun hq => ?_) (fun hq => ?_)
          · rw [decide_eq_true_iff] at hq
            rw [if_pos hq] at hT
            have hdl : ((done + 1 : Nat) : Int) = (done : Int) + 1 := by omega
            refine LWp.seq (LWp.ops ?_)
            refine WOps.xn (gs := []) (hs := [.at 0]) 5 rfl rfl ⟨rfl, by omega, by omega, trivial⟩ ?_
            refine WOps.cons (Op1.callvR (Hin := writeH ls hd b4) (H0 := []) rfl (by have := ihm (done + 1) (by omega); rw [← em, hdl] at this; exact this) rfl rfl (SubL.refl _) (by simp) ?_)
            rintro res Hout ⟨rfl, rfl⟩
            rw [hT]
            refine WOps.xd (gs := []) (hs := []) rfl trivial ?_
            refine LWp.cutX (fun _ : Unit => True) (fun _ => el [(0, I done), (1, I (m + 1 : Nat)), (2, .pi (hcells hd)), (3, .pi [letters ls]), (4, .po b4 0), (21, letters ls), (22, I ls.length), (23, I k), (10, .pi x.enc), (11, Str (S.getD [])), (12, B S.isSome), (13, Str (T.getD [])), (69, B (match T, S with | none, _ => false | some _, none => true | some t, some s => decide (cmpB (ordF ls) t s < 0)))]) (fun _ => writeH ls hd b4) (fun _ => []) ?_ ?_
            · cases T with
              | none =>
                refine LWp.x (gs := [(59, false)]) (hs := []) rfl (by simp) ?_
                exact ⟨(), trivial, Ent.trans (Ent.ofH (by simp)) (Ent.el ⟨rfl, rfl, rfl, rfl, rfl, rfl, rfl, rfl, rfl, rfl, rfl, rfl, rfl, trivial⟩)⟩
              | some t =>
                cases S with
                | none =>
                  refine LWp.x (gs := [(59, true), (62, true)]) (hs := []) rfl (by simp) ?_
                  exact ⟨(), trivial, Ent.trans (Ent.ofH (by simp)) (Ent.el ⟨rfl, rfl, rfl, rfl, rfl, rfl, rfl, rfl, rfl, rfl, rfl, rfl, rfl, trivial⟩)⟩
                | some s =>
                  simp only [Option.getD_some] at hSl hTl
                  refine LWp.x (gs := [(59, true), (62, false)]) (hs := [.ret (I (cmpB (ordF ls) t s))]) rfl (by simp; exact order_ev ls hl.1 t s (by omega) (by omega)) ?_
                  exact ⟨(), trivial, Ent.trans (Ent.ofH (by simp)) (Ent.el ⟨rfl, rfl, rfl, rfl, rfl, rfl, rfl, rfl, rfl, rfl, rfl, rfl, rfl, trivial⟩)⟩
            intro _ _
            refine LWp.ite rfl (fun hb => ?_) (fun hb => ?_)
            · refine LWp.x (gs := []) (hs := []) rfl trivial ?_
              have hR : wrC ls S T = T ∧ T.isSome = true := by
                cases T with
                | none => cases hb
                | some t => cases S with
                  | none => exact ⟨rfl, rfl⟩
                  | some s => simp only [decide_eq_true_eq] at hb; exact ⟨by simp only [wrC, if_pos hb], rfl⟩
              refine ⟨(), trivial, Ent.el ⟨rfl, rfl, rfl, rfl, rfl, rfl, rfl, rfl, rfl, ?_, ?_, trivial⟩⟩
              · rw [hR.1]; rfl
              · rw [hR.1, hR.2]; rfl
            · have hR : wrC ls S T = S := by
                cases T with
                | none => rfl
                | some t => cases S with
                  | none => cases hb
                  | some s => simp only [decide_eq_false_iff_not] at hb; simp only [wrC, if_neg hb]
              rw [hR]
              exact LWp.skip ⟨(), trivial, Ent.el ⟨rfl, rfl, rfl, rfl, rfl, rfl, rfl, rfl, rfl, rfl, rfl, trivial⟩⟩
          · rw [decide_eq_false_iff_not] at hq
            rw [if_neg hq] at hT
            subst hT
            exact LWp.skip ⟨(), trivial, Ent.el ⟨rfl, rfl, rfl, rfl, rfl, rfl, rfl, rfl, rfl, rfl, rfl, trivial⟩⟩
        intro _ _
        have hRl : ((wrC ls S T).getD []).length ≤ 5 := by
          cases hr : wrC ls S T with
          | none => simp
          | some a =>
            unfold wrC at hr
            split at hr
            · rw [hr] at hSl; exact hSl
            · cases hr; exact hTl
            · split at hr
              · cases hr; exact hTl
              · cases hr; exact hSl
        generalize wrC ls S T = R at hfx hRl
        refine LWp.sx (gs := []) (hs := []) rfl trivial ?_
        refine LWp.ite (b := R.isSome) rfl (fun hb => ?_) (fun hb => ?_)
        · obtain ⟨t, rfl⟩ := Option.isSome_iff_exists.1 hb
          rw [hfx] at hi
          simp only [Option.getD_some] at hRl
          have hwr : IntKind.i32.wrap x.c = x.c := by
            have h : ∀ k : Fin 26, IntKind.i32.wrap (97 + (k.1 : Int)) = 97 + (k.1 : Int) := by decide +kernel
            have := h ⟨(x.c - 97).toNat, by omega⟩
            have e1 : (97 : Int) + ((x.c - 97).toNat : Int) = x.c := by omega
            rw [e1] at this; exact this
          refine LWp.sx (gs := []) (hs := [.op (Str [x.c.toNat.toUInt8])]) rfl ⟨hwr, op_rune rfl c0 c1, by show 1 + t.length ≤ _; omega, trivial⟩ ?_
          refine LWp.ret (retR2 (Str (x.c.toNat.toUInt8 :: t)) (B true) ?_ rfl rfl rfl ⟨by rw [hi]; rfl, rfl⟩)
          exact congrArg (fun s => AV.v (.string s)) (str_append [x.c.toNat.toUInt8] t)
        · have hR : R = none := by cases R with
            | none => rfl
            | some _ => cases hb
          rw [hfx, hR] at hi
          have hl1 := hl.1
          refine LWp.skip ?_
          refine LWp.x (gs := []) (hs := []) rfl ⟨by omega, trivial⟩ ?_
          exact ⟨k + 1, ⟨hc, hi⟩, by omega, Ent.el ⟨rfl, rfl, rfl, rfl, rfl, rfl, rfl, rfl, trivial⟩⟩
      · simp only [decide_eq_false_iff_not, Int.ofNat_lt] at hc
        exact LWp.exit ⟨(), by rw [hi, drop_nil hc]; rfl, Ent.el trivial⟩
    · intro _ h
      refine LWp.sx (gs := []) (hs := []) rfl trivial ?_
      exact LWp.ret (retR2 (Str []) (B false) rfl rfl rfl rfl ⟨by rw [h]; rfl, rfl⟩)
end Go.Px

namespace Go.Px
open Go.Proofs

structure AlOK (n : Int) (a : Alph) : Prop where
  name : nameB a.name = true
  l1 : 1 ≤ a.ls.length
  l6 : a.ls.length ≤ 6
  let_ : ∀ x ∈ a.ls, 97 ≤ x.c ∧ x.c ≤ 122 ∧ 0 ≤ x.s ∧ x.s < 2 ^ n.toNat ∧ (x.s = 0 → x.q = true)
  nd : (a.ls.map (·.c)).Nodup
structure SpV (b : Book) (s : Spelling) : Prop where
  a0 : 0 ≤ s.a
  ha : ∃ a, b.al[s.a.toNat]? = some a ∧ ∀ c ∈ s.t, 0 ≤ indexC a.ls c.toNat
  t1 : 1 ≤ s.t.length
  t5 : s.t.length ≤ 5
structure Valid (b : Book) : Prop where
  n1 : 1 ≤ b.n
  n4 : b.n ≤ 4
  al1 : 1 ≤ b.al.length
  al3 : b.al.length ≤ 3
  ss5 : b.ss.length ≤ 5
  alph : ∀ a ∈ b.al, AlOK b.n a
  names : (b.al.map (·.name)).Nodup
  sp : ∀ s ∈ b.ss, SpV b s

theorem failF_zero' {f : Nat → Int} : ∀ {m k : Nat}, (∀ j, k ≤ j → j < k + m → f j = 0) → (failF f m k).2 = 0
  | 0, k, _ => rfl
  | m + 1, k, h => by
    simp only [failF]
    rw [if_pos (h k (by omega) (by omega))]
    exact failF_zero' (fun j h1 h2 => h j (by omega) (by omega))
theorem failF_iff {f : Nat → Int} {m : Nat} : (failF f m 0).2 = 0 ↔ ∀ j, j < m → f j = 0 :=
  ⟨fun h j hj => failF_zero h j (by omega) (by omega), fun h => failF_zero' (fun j _ hj => h j (by omega))⟩
theorem beyond1_iff {lo hi n : Int} : beyondB lo hi [n] = true ↔ ¬ (lo ≤ n ∧ n ≤ hi) := by
  simp only [beyondB, List.any_cons, List.any_nil, Bool.or_false, Bool.or_eq_true, decide_eq_true_eq]; omega
theorem nodup_iff_take {α β : Type} [DecidableEq β] (f : α → β) (l : List α) : (l.map f).Nodup ↔ ∀ (i : Nat) (x : α), l[i]? = some x → ∀ y ∈ l.take i, f y ≠ f x := by
  constructor
  · intro h i x hx y hy e
    obtain ⟨j, hj⟩ := List.mem_iff_getElem?.1 hy
    rw [List.getElem?_take] at hj
    split at hj
    · rename_i hji
      have h1 : (l.map f)[j]? = some (f x) := by rw [List.getElem?_map, hj]; simp [e]
      have h2 : (l.map f)[i]? = some (f x) := by rw [List.getElem?_map, hx]; rfl
      obtain ⟨a1, a2⟩ := List.getElem?_eq_some_iff.1 h1
      obtain ⟨b1, b2⟩ := List.getElem?_eq_some_iff.1 h2
      have := (List.getElem_inj h).1 (a2.trans b2.symm)
      omega
    · cases hj
  · intro h
    rw [List.Nodup, List.pairwise_iff_getElem]
    intro i j hi hj hij e
    simp only [List.length_map] at hi hj
    simp only [List.getElem_map] at e
    refine h j l[j] (by simp) l[i] ?_ e
    rw [List.mem_iff_getElem?]
    exact ⟨i, by rw [List.getElem?_take, if_pos hij]; simp⟩

theorem indexC_nonneg (l : List Letter) (c : Int) : 0 ≤ indexC l c ↔ ∃ x ∈ l, x.c = c := by
  unfold indexC
  rw [idxF_iff _ _ _ (by omega), List.any_eq_true]
  simp
theorem letterErr_iff {n : Int} {ls : List Letter} {i : Nat} {x : Letter} (hx : ls[i]? = some x) : letterErr n ls i = 0 ↔ (97 ≤ x.c ∧ x.c ≤ 122 ∧ 0 ≤ x.s ∧ x.s < 2 ^ n.toNat ∧ (x.s = 0 → x.q = true)) ∧ ∀ y ∈ ls.take i, y.c ≠ x.c := by
  simp only [letterErr, hx]
  by_cases h1 : beyondB 97 122 [x.c] = true
  · rw [if_pos h1]; rw [beyond1_iff] at h1; simp; omega
  rw [if_neg h1]; rw [beyond1_iff] at h1
  by_cases h2 : decide (indexC (ls.take i) x.c ≥ 0) = true
  · rw [if_pos h2]
    simp only [ge_iff_le, decide_eq_true_eq, indexC_nonneg] at h2
    obtain ⟨y, hy, e⟩ := h2
    simp; intro _ _ _ _ _; exact ⟨y, hy, e⟩
  rw [if_neg h2]
  simp only [ge_iff_le, decide_eq_true_eq, indexC_nonneg, not_exists, not_and] at h2
  by_cases h3 : beyondB 0 (2 ^ n.toNat - 1) [x.s] = true
  · rw [if_pos h3]; rw [beyond1_iff] at h3; simp; omega
  rw [if_neg h3]; rw [beyond1_iff] at h3
  by_cases h4 : (x.s == 0 && !x.q) = true
  · rw [if_pos h4]; simp at h4; simp [h4]
  rw [if_neg h4]
  simp only [true_iff]
  refine ⟨⟨by omega, by omega, by omega, by omega, ?_⟩, h2⟩
  intro e
  simp only [e, beq_self_eq_true, Bool.true_and, Bool.not_eq_true', Bool.not_eq_false] at h4
  exact h4
theorem alphErr_iff {b : Book} {i : Nat} {a : Alph} (ha : b.al[i]? = some a) : alphErr b i = 0 ↔ AlOK b.n a ∧ ∀ y ∈ b.al.take i, y.name ≠ a.name := by
  simp only [alphErr, ha]
  by_cases h1 : nameB a.name = true
  case neg => rw [if_neg h1]; exact ⟨fun h => by simp at h, fun h => absurd h.1.name h1⟩
  rw [if_pos h1]
  by_cases h2 : (b.al.take i).any (fun x => x.name == a.name) = true
  · rw [if_pos h2]
    simp only [List.any_eq_true, beq_iff_eq] at h2
    obtain ⟨y, hy, e⟩ := h2
    exact ⟨fun h => by simp at h, fun h => absurd e (h.2 y hy)⟩
  rw [if_neg h2]
  simp only [List.any_eq_true, beq_iff_eq, not_exists, not_and] at h2
  by_cases h3 : beyondB 1 6 [(a.ls.length : Int)] = true
  · rw [if_pos h3]; rw [beyond1_iff] at h3
    exact ⟨fun h => by simp at h, fun h => absurd ⟨by have := h.1.l1; omega, by have := h.1.l6; omega⟩ h3⟩
  rw [if_neg h3]; rw [beyond1_iff] at h3
  rw [failF_iff]
  constructor
  · intro h
    refine ⟨⟨h1, by omega, by omega, ?_, ?_⟩, h2⟩
    · intro x hx
      obtain ⟨j, hj⟩ := List.mem_iff_getElem?.1 hx
      exact ((letterErr_iff hj).1 (h j (List.getElem?_eq_some_iff.1 hj).1)).1
    · rw [nodup_iff_take]
      intro j x hj
      exact ((letterErr_iff hj).1 (h j (List.getElem?_eq_some_iff.1 hj).1)).2
  · rintro ⟨ok, _⟩ j hj
    have hx : a.ls[j]? = some a.ls[j] := by simp
    rw [letterErr_iff hx]
    exact ⟨ok.let_ _ (List.mem_of_getElem? hx), (nodup_iff_take _ _).1 ok.nd j _ hx⟩
theorem spellErr_iff {b : Book} {i : Nat} {s : Spelling} (hs : b.ss[i]? = some s) : spellErr b i = 0 ↔ SpV b s := by
  simp only [spellErr, hs]
  by_cases h1 : beyondB 0 ((b.al.length : Int) - 1) [s.a] = true
  · rw [if_pos h1]; rw [beyond1_iff] at h1
    refine ⟨fun h => by simp at h, fun h => absurd ⟨h.a0, ?_⟩ h1⟩
    obtain ⟨a, ha, _⟩ := h.ha
    have := (List.getElem?_eq_some_iff.1 ha).1
    omega
  rw [if_neg h1]; rw [beyond1_iff] at h1
  by_cases h2 : beyondB 1 5 [(s.t.length : Int)] = true
  · rw [if_pos h2]; rw [beyond1_iff] at h2
    exact ⟨fun h => by simp at h, fun h => absurd ⟨by have := h.t1; omega, by have := h.t5; omega⟩ h2⟩
  rw [if_neg h2]; rw [beyond1_iff] at h2
  have hlt : s.a.toNat < b.al.length := by omega
  obtain ⟨a, ha⟩ := ex_get hlt
  simp only [ha]
  by_cases h3 : s.t.all (fun c => decide (0 ≤ indexC a.ls c.toNat)) = true
  · rw [if_pos h3]
    simp only [List.all_eq_true, decide_eq_true_eq] at h3
    exact ⟨fun _ => ⟨by omega, ⟨a, ha, h3⟩, by omega, by omega⟩, fun _ => rfl⟩
  · rw [if_neg h3]
    refine ⟨fun h => by simp at h, fun h => absurd ?_ h3⟩
    obtain ⟨a', ha', h4⟩ := h.ha
    rw [ha] at ha'; cases ha'
    simp only [List.all_eq_true, decide_eq_true_eq]
    exact h4

theorem valid_iff {b : Book} : (check b).2.2 = 0 ↔ Valid b := by
  unfold check
  by_cases h1 : beyondB 1 4 [b.n] = true
  · rw [if_pos h1]; rw [beyond1_iff] at h1
    exact ⟨fun h => by simp at h, fun h => absurd ⟨h.n1, h.n4⟩ h1⟩
  rw [if_neg h1]; rw [beyond1_iff] at h1
  by_cases h2 : beyondB 1 3 [(b.al.length : Int)] = true
  · rw [if_pos h2]; rw [beyond1_iff] at h2
    exact ⟨fun h => by simp at h, fun h => absurd ⟨by have := h.al1; omega, by have := h.al3; omega⟩ h2⟩
  rw [if_neg h2]; rw [beyond1_iff] at h2
  have hal : (failF (alphErr b) b.al.length 0).2 = 0 ↔ (∀ a ∈ b.al, AlOK b.n a) ∧ (b.al.map (·.name)).Nodup := by
    rw [failF_iff, nodup_iff_take]
    constructor
    · intro h
      constructor
      · intro a ha
        obtain ⟨i, hi⟩ := List.mem_iff_getElem?.1 ha
        exact ((alphErr_iff hi).1 (h i (List.getElem?_eq_some_iff.1 hi).1)).1
      · intro i a hi
        exact ((alphErr_iff hi).1 (h i (List.getElem?_eq_some_iff.1 hi).1)).2
    · rintro ⟨h3, h4⟩ i hi
      have ha : b.al[i]? = some b.al[i] := by simp
      exact (alphErr_iff ha).2 ⟨h3 _ (List.mem_of_getElem? ha), h4 i _ ha⟩
  have hsp : (failF (spellErr b) b.ss.length 0).2 = 0 ↔ ∀ s ∈ b.ss, SpV b s := by
    rw [failF_iff]
    constructor
    · intro h s hs
      obtain ⟨i, hi⟩ := List.mem_iff_getElem?.1 hs
      exact (spellErr_iff hi).1 (h i (List.getElem?_eq_some_iff.1 hi).1)
    · intro h i hi
      have ha : b.ss[i]? = some b.ss[i] := by simp
      exact (spellErr_iff ha).2 (h _ (List.mem_of_getElem? ha))
  by_cases h3 : (failF (alphErr b) b.al.length 0).2 = 0
  · rw [if_pos h3]
    by_cases h4 : 5 < b.ss.length
    · rw [if_pos h4]
      exact ⟨fun h => by simp at h, fun h => absurd h.ss5 (by omega)⟩
    rw [if_neg h4]
    by_cases h5 : (failF (spellErr b) b.ss.length 0).2 = 0
    · rw [if_pos h5]
      exact ⟨fun _ => ⟨by omega, by omega, by omega, by omega, by omega, (hal.1 h3).1, (hal.1 h3).2, hsp.1 h5⟩, fun _ => rfl⟩
    · rw [if_neg h5]
      exact ⟨fun h => absurd h h5, fun h => absurd (hsp.2 h.sp) h5⟩
  · rw [if_neg h3]
    exact ⟨fun h => absurd h h3, fun h => absurd (hal.2 ⟨h.alph, h.names⟩) h3⟩

theorem AlOK.ls {n : Int} (hn : n ≤ 60) {a : Alph} (h : AlOK n a) : LsOK a.ls := by
  refine ⟨by have := h.l6; omega, fun x hx => ?_⟩
  obtain ⟨h1, h2, h3, h4, _⟩ := h.let_ x hx
  have := pow2_le (k := n.toNat) (by omega)
  exact ⟨h1, h2, h3, by omega⟩

/-- What Spell returns. -/
def spellE (b : Book) (a : Int) (l : List Int) : Int := if enterE b b.al.length [a] = 0 then hearE b.n l else enterE b b.al.length [a]
def lettersOf (b : Book) (a : Int) : List Letter := match b.al[a.toNat]? with | some x => x.ls | none => []
def spellT (ls : List Letter) (l : List Int) : Option (List UInt8) := (List.range' 1 5).findSome? fun m => wr ls l m 0
def spellR (b : Book) (a : Int) (l : List Int) : List UInt8 × Int :=
  if spellE b a l = 0 then (match spellT (lettersOf b a) l with | some t => (t, 0) | none => ([], 9)) else ([], spellE b a l)

theorem espell_ev (b : Book) (hw : b.wf) (hs : b.al.length ≤ 9223372036854775807) (i : Int) (l : List Int) : Ev Try.prog 35 [.agg b.enc, I i, ints l] (.tup [Str (spellR b i l).1, I (spellR b i l).2]) := by
  refine Ev.intro fn35 ?_
  refine LWp.sx (gs := []) (hs := [.ice]) rfl ⟨⟨rfl, rfl⟩, trivial⟩ ?_
  have hln : ((b.al.map Alph.enc).length : Int) = b.al.length := by simp
  by_cases he : enterE b b.al.length [i] = 0
  · have er : spellE b i l = hearE b.n l := by simp only [spellE, he, if_true]
    obtain ⟨hv, hb⟩ := enterE_check he
    have V := valid_iff.1 hv
    have n1 := V.n1
    have n4 := V.n4
    have al3 := V.al3
    simp only [beyondB, List.any_cons, List.any_nil, Bool.or_false, Bool.or_eq_false_iff, decide_eq_false_iff_not] at hb
    have hlt : i.toNat < b.al.length := by omega
    obtain ⟨a, ha⟩ := ex_get hlt
    have hls := (V.alph a (List.mem_of_getElem? ha)).ls (by omega)
    have hlo : lettersOf b i = a.ls := by simp only [lettersOf, ha]
    refine LWp.sx (gs := []) (hs := [.ice, .ret (.tup [lookP b, I 0])]) rfl ⟨rfl, by rw [← hln] at he; exact enter_ok hw (by omega) (by omega) he, trivial⟩ ?_
    refine LWp.seq (LWp.seq ?_)
    refine LWp.x (gs := []) (hs := []) rfl trivial ?_
    refine LWp.ite (b := false) rfl (fun h => by cases h) (fun _ => LWp.skip ?_)
    refine LWp.sx (gs := []) (hs := [.ret (.tup [.agg (hcells (if hearE b.n l = 0 then l else [])), I (hearE b.n l)]), .lin]) rfl ⟨hear_ev b _ l (by omega) (by omega), rfl, ⟨rfl, rfl, rfl, Nat.le_refl 6⟩, trivial⟩ ?_
    refine LWp.ent (Ent.freezeLbox (t := 10) rfl) ?_
    refine LWp.seq (LWp.seq ?_)
    refine LWp.x (gs := []) (hs := []) rfl trivial ?_
    refine LWp.ite rfl (fun h => ?_) (fun h => ?_)
    · simp only [bne_iff_ne, ne_eq] at h
      have hR : spellR b i l = ([], hearE b.n l) := by simp only [spellR, er, h, if_false]
      refine LWp.sx (gs := []) (hs := []) rfl trivial ?_
      rw [hR]
      refine LWp.ret (retT (.inr rfl) (.many (by decide) ⟨.tmp ?_ rfl, .tmp ?_ rfl, trivial⟩))
      · rfl
      · rfl
    · simp only [bne_eq_false_iff_eq] at h
      rw [h, if_pos rfl]
      have hh := hearE_HOK (by omega) h
      have hR : spellR b i l = (match spellT a.ls l with | some t => (t, 0) | none => ([], 9)) := by simp only [spellR, er, h, if_true, hlo]
      refine LWp.skip ?_
      refine LWp.sx (gs := []) (hs := [.cells a.enc, .lin]) rfl ⟨⟨by omega, by simp [ha]⟩, rfl, ⟨rfl, rfl, rfl, by decide⟩, trivial⟩ ?_
      refine LWp.ent (Ent.freezeLbox (t := 11) rfl) ?_
      refine LWp.seq (LWp.ops (WOps.cons (Op1.alloc rfl (fun b4 => ?_))))
      refine WOps.xd (gs := []) (hs := []) rfl trivial ?_
      refine LWp.seq (LWp.ops ?_)
      refine WOps.xn (gs := []) (hs := []) 1 rfl rfl trivial ?_
      refine WOps.cons (Op1.storeO (i := 0) rfl rfl rfl rfl rfl rfl (by decide) ?_)
      refine WOps.xd (gs := []) (hs := []) rfl trivial ?_
      refine LWp.seq (LWp.seq ?_)
      refine LWp.x (gs := []) (hs := []) rfl trivial ?_
      refine LWp.blockT (fun _ : Unit => spellT a.ls l = none) (fun _ => el []) (fun _ => writeH a.ls l b4) (fun _ => []) ?_ ?_
      · refine LWp.loopN (fun k : Nat => k ≤ 5 ∧ spellT a.ls l = (List.range' (k + 1) (5 - k)).findSome? fun m => wr a.ls l m 0) (fun k => el [(12, .po b4 0), (13, I (k + 1 : Nat))]) (fun _ => writeH a.ls l b4) (fun _ => []) (fun k => 5 - k) 0 ⟨by omega, rfl⟩
          (Ent.trans (Ent.ofH rfl) (Ent.el ⟨rfl, rfl, trivial⟩)) ?_
        rintro k ⟨hk, hi⟩
        refine LWp.seq (LWp.seq ?_)
        refine LWp.x (gs := []) (hs := []) rfl trivial ?_
        refine LWp.ite rfl (fun hc => ?_) (fun hc => ?_)
        · simp only [decide_eq_true_eq] at hc
          have hk5 : k < 5 := by omega
          rw [show 5 - k = (5 - (k + 1)) + 1 by omega, List.range'_succ, List.findSome?_cons] at hi
          refine LWp.skip (LWp.seq (LWp.block ?_))
          refine LWp.seq (LWp.ops ?_)
          refine WOps.xn (gs := []) (hs := [.at 0]) 2 rfl rfl ⟨rfl, trivial⟩ ?_
          refine WOps.cons (Op1.callvR (Hin := writeH a.ls l b4) (H0 := []) rfl (write_ev a.ls hls l hh b4 (k + 1) (by omega) 0 (by omega)) rfl rfl (SubL.refl _) (by simp) ?_)
          rintro res Hout ⟨rfl, rfl⟩
          refine WOps.xd (gs := []) (hs := []) rfl trivial ?_
          refine LWp.sx (gs := []) (hs := []) rfl trivial ?_
          refine LWp.ite (b := (wr a.ls l (k + 1) 0).isSome) rfl (fun hb => ?_) (fun hb => ?_)
          · obtain ⟨t, ht⟩ := Option.isSome_iff_exists.1 hb
            rw [ht] at hi
            have hR' : spellR b i l = (t, 0) := by rw [hR, hi]
            refine LWp.sx (gs := []) (hs := []) rfl trivial ?_
            rw [hR']
            refine LWp.ret ⟨.inr rfl, _, rfl, .many (by decide) ⟨.tmp ?_ rfl, .tmp ?_ rfl, trivial⟩⟩
            · show Str _ = Str _
              rw [ht]; rfl
            · rfl
          · have hn : wr a.ls l (k + 1) 0 = none := by
              cases hw : wr a.ls l (k + 1) 0 with
              | none => rfl
              | some _ => rw [hw] at hb; cases hb
            rw [hn] at hi
            refine LWp.skip ?_
            refine LWp.x (gs := []) (hs := []) rfl ⟨by omega, trivial⟩ ?_
            exact ⟨k + 1, ⟨by omega, hi⟩, by omega, Ent.trans (Ent.ofH (by simp)) (Ent.el ⟨rfl, rfl, trivial⟩)⟩
        · simp only [decide_eq_false_iff_not] at hc
          have : k = 5 := by omega
          subst this
          exact LWp.exit ⟨(), hi, Ent.el trivial⟩
      · intro _ hn
        have hR' : spellR b i l = ([], 9) := by rw [hR, hn]
        refine LWp.sx (gs := []) (hs := []) rfl trivial ?_
        rw [hR']
        refine LWp.ret ⟨.inr rfl, _, rfl, .many (by decide) ⟨.tmp ?_ rfl, .tmp ?_ rfl, trivial⟩⟩
        · rfl
        · rfl
  · have er : spellE b i l = enterE b b.al.length [i] := by simp only [spellE, he, if_false]
    have hR : spellR b i l = ([], enterE b b.al.length [i]) := by simp only [spellR, er, he, if_false]
    refine LWp.sx (gs := []) (hs := [.ice, .ret (.tup [.v (.pointer none), I (enterE b b.al.length [i])])]) rfl ⟨rfl, by rw [← hln] at he ⊢; exact enter_err hw (by omega) (by omega) he, trivial⟩ ?_
    refine LWp.seq (LWp.seq ?_)
    refine LWp.x (gs := []) (hs := []) rfl trivial ?_
    refine LWp.ite rfl (fun h => ?_) (fun h => ?_)
    · refine LWp.sx (gs := []) (hs := []) rfl trivial ?_
      rw [hR]
      refine LWp.ret (retT (.inr rfl) (.many (by decide) ⟨.tmp ?_ rfl, .tmp ?_ rfl, trivial⟩))
      · rfl
      · rfl
    · simp only [bne_eq_false_iff_eq] at h
      exact absurd h he
end Go.Px

namespace Go.Px
open Go.Proofs

abbrev strs (l : List (List UInt8)) : AV := .sl 1 (l.map fun s => [Str s])
theorem inB_not (n lo hi : Int) : (!(decide (lo ≤ n) && decide (n ≤ hi))) = beyondB lo hi [n] := by
  rw [Bool.eq_iff_iff]; simp [beyondB]

theorem rname_ev (l : List UInt8) (hl : l.length ≤ 9223372036854775807) : Ev Try.prog 20 [Str l] (B (nameB l)) := by
  refine Ev.intro fn20 ?_
  refine LWp.sx (gs := []) (hs := []) rfl trivial ?_
  refine LWp.sx (gs := []) (hs := [.ret (B (decide (1 ≤ (l.length : Int)) && decide ((l.length : Int) ≤ 16)))]) rfl ⟨in_ev _ 1 16, trivial⟩ ?_
  refine LWp.seq (LWp.seq ?_)
  refine LWp.x (gs := []) (hs := []) rfl trivial ?_
  generalize hF : (decide (1 ≤ (l.length : Int)) && decide ((l.length : Int) ≤ 16)) = F
  have hnb : nameB l = (allN l 0 && F) := by
    unfold nameB
    rw [← hF]
    congr 1
    rw [Bool.eq_iff_iff]; simp; omega
  refine LWp.blockT (fun _ : Unit => True) (fun _ => el [(3, B (nameB l))]) (fun _ => []) (fun _ => []) ?_ ?_
  · refine LWp.loopN (X := Nat × Bool) (fun x => x.1 ≤ l.length ∧ nameB l = (allN (l.drop x.1) x.1 && x.2)) (fun x => el [(0, Str l), (3, B x.2), (4, I x.1)]) (fun _ => []) (fun _ => []) (fun x => l.length - x.1) (0, F) ⟨by simp, hnb⟩
      (Ent.el ⟨rfl, rfl, rfl, trivial⟩) ?_
    rintro ⟨k, f⟩ ⟨hk, hi⟩
    simp only at hk hi ⊢
    refine LWp.seq (LWp.seq ?_)
    refine LWp.x (gs := []) (hs := []) rfl trivial ?_
    refine LWp.ite rfl (fun hc => ?_) (fun hc => ?_)
    · simp only [decide_eq_true_eq] at hc
      have hc' : k < l.length := by have : ((k : Int) < (l.length : Int)) := hc; omega
      obtain ⟨c, hx⟩ := ex_get hc'
      rw [drop_cons hx, allN] at hi
      have hby : (⟨l.toArray⟩ : ByteArray).data.toList[((k : Nat) : Int).toNat]? = some c := by simpa using hx
      have hco : ∀ m : Int, IntKind.i64.wrap ((c.toNat : Nat) : Int) = c.toNat := by
        intro _
        exact i64_wrap (by omega) (by have := c.toNat_lt; omega)
      refine LWp.skip ?_
      refine LWp.blockX (fun _ : Unit => True) (fun _ => el [(0, Str l), (3, B (f && okc k c.toNat)), (4, I k)]) (fun _ => []) (fun _ => []) ?_ ?_
      · refine LWp.cutX (fun _ : Unit => True) (fun _ => el [(0, Str l), (3, B f), (4, I k), (5, B (decide (0 < k) && (c.toNat == 46 || (decide (48 ≤ c.toNat) && decide (c.toNat ≤ 57)))))]) (fun _ => []) (fun _ => []) ?_ ?_
        · by_cases h0 : 0 < k
          · by_cases h1 : c.toNat = 46
            · refine LWp.x (gs := [(17, true), (22, true)]) (hs := [.byte c]) rfl (by simp [h0, h1, hx]) ?_
              exact ⟨(), trivial, Ent.el ⟨rfl, rfl, rfl, by show B _ = B _; simp [h0, h1], trivial⟩⟩
            · have h1' : ¬ ((c.toNat : Int) = 46) := by omega
              refine LWp.x (gs := [(17, true), (22, false)]) (hs := [.byte c, .byte c, .ret (B (decide ((48 : Int) ≤ c.toNat) && decide ((c.toNat : Int) ≤ 57)))]) rfl (by simp [h0, h1', hx]; exact ⟨hco 0, in_ev _ 48 57⟩) ?_
              refine ⟨(), trivial, Ent.el ⟨rfl, rfl, rfl, ?_, trivial⟩⟩
              show B _ = B _
              have e : (decide ((48 : Int) ≤ c.toNat) && decide ((c.toNat : Int) ≤ 57)) = (decide (48 ≤ c.toNat) && decide (c.toNat ≤ 57)) := by rw [Bool.eq_iff_iff]; simp; omega
              rw [e]; simp [h0, h1]
          · have h0' : k = 0 := by omega
            subst h0'
            refine LWp.x (gs := [(17, false)]) (hs := []) rfl (by simp) ?_
            exact ⟨(), trivial, Ent.el ⟨rfl, rfl, rfl, by show B _ = B _; simp, trivial⟩⟩
        intro _ _
        generalize hg : (decide (0 < k) && (c.toNat == 46 || (decide (48 ≤ c.toNat) && decide (c.toNat ≤ 57)))) = g
        have hok : okc k c.toNat = ((decide (97 ≤ c.toNat) && decide (c.toNat ≤ 122)) || g) := by rw [← hg]; rfl
        cases f with
        | false =>
          refine LWp.x (gs := [(31, false)]) (hs := []) rfl (by simp) ?_
          exact ⟨(), trivial, Ent.el ⟨rfl, by show B _ = B _; simp, rfl, trivial⟩⟩
        | true =>
          have e : (decide ((97 : Int) ≤ c.toNat) && decide ((c.toNat : Int) ≤ 122)) = (decide (97 ≤ c.toNat) && decide (c.toNat ≤ 122)) := by rw [Bool.eq_iff_iff]; simp; omega
          rw [← e] at hok
          generalize hq : (decide ((97 : Int) ≤ c.toNat) && decide ((c.toNat : Int) ≤ 122)) = q at hok
          have hin : Ev Try.prog 55 [I c.toNat, I 97, I 122] (B q) := by rw [← hq]; exact in_ev _ 97 122
          cases q with
          | true =>
            refine LWp.x (gs := [(31, true), (37, true)]) (hs := [.byte c, .ret (B true)]) rfl (by simp [hx]; exact ⟨hco 0, hin⟩) ?_
            exact ⟨(), trivial, Ent.el ⟨rfl, by show B _ = B _; simp [hok], rfl, trivial⟩⟩
          | false =>
            refine LWp.x (gs := [(31, true), (37, false)]) (hs := [.byte c, .ret (B false)]) rfl (by simp [hx]; exact ⟨hco 0, hin⟩) ?_
            exact ⟨(), trivial, Ent.el ⟨rfl, by show B _ = B _; simp [hok], rfl, trivial⟩⟩
      intro _ _
      refine LWp.x (gs := []) (hs := []) rfl ⟨by omega, trivial⟩ ?_
      refine ⟨(k + 1, f && okc k c.toNat), ⟨hc', ?_⟩, by simp only; omega, Ent.el ⟨rfl, rfl, rfl, trivial⟩⟩
      rw [hi]
      cases f <;> cases okc k c.toNat <;> simp
    · simp only [decide_eq_false_iff_not] at hc
      have hc' : ¬ k < l.length := by have : ¬ ((k : Int) < (l.length : Int)) := hc; omega
      have hf : nameB l = f := by rw [hi, drop_nil hc']; simp [allN]
      exact LWp.exit ⟨(), trivial, Ent.el ⟨by rw [hf]; rfl, trivial⟩⟩
  · intro _ _
    refine LWp.sx (gs := []) (hs := []) rfl trivial ?_
    refine LWp.ret (retT (.inr rfl) (.one (.tmp ?_ rfl)))
    rfl

theorem where_ev (l : List (List UInt8)) (s : List UInt8) : Ev Try.prog 93 [strs l, Str s] (I (idxF (fun x => x == s) l 0)) := by
  refine Ev.intro fn93 ?_
  refine LWp.slLen 0 rfl fun ha => ?_
  simp only [List.length_map] at ha
  refine LWp.sx (gs := []) (hs := []) rfl trivial ?_
  refine LWp.sx (gs := []) (hs := []) rfl trivial ?_
  refine LWp.blockX (fun k : Nat => k ≤ l.length ∧ idxF (fun x => x == s) l 0 = if k = l.length then -1 else (k : Int)) (fun k => el [(0, strs l), (5, I k)]) (fun _ => []) (fun _ => []) ?_ ?_
  · refine LWp.loopN (fun k : Nat => k ≤ l.length ∧ idxF (fun x => x == s) l 0 = idxF (fun x => x == s) (l.drop k) k) (fun k => el [(0, strs l), (1, Str s), (5, I k)]) (fun _ => []) (fun _ => []) (fun k => l.length - k) 0 ⟨by omega, rfl⟩
      (Ent.el ⟨rfl, rfl, rfl, trivial⟩) ?_
    rintro k ⟨hk, hi⟩
    refine LWp.seq (LWp.seq ?_)
    by_cases hc : k < l.length
    · obtain ⟨x, hx⟩ := ex_get hc
      rw [drop_cons hx, idxF] at hi
      refine LWp.x (gs := [(10, true)]) (hs := [.cells [Str x]]) rfl (by simp [hc, (List.getElem?_eq_some_iff.1 hx).2]) ?_
      refine LWp.ite rfl (fun hb => ?_) (fun hb => ?_)
      · have hne : ¬ ((x == s) = true) := by
          have hb : (!((⟨x.toArray⟩ : ByteArray).toList == (⟨s.toArray⟩ : ByteArray).toList)) = true := hb
          intro h
          rw [eq_of_beq h] at hb
          simp at hb
        rw [if_neg hne] at hi
        refine LWp.skip (LWp.block ?_)
        refine LWp.x (gs := []) (hs := []) rfl ⟨by omega, trivial⟩ ?_
        exact ⟨k + 1, ⟨hc, hi⟩, by omega, Ent.el ⟨rfl, rfl, rfl, trivial⟩⟩
      · have heq : (x == s) = true := by
          have hb : (!((⟨x.toArray⟩ : ByteArray).toList == (⟨s.toArray⟩ : ByteArray).toList)) = false := hb
          simp at hb
          simpa using hb
        rw [if_pos heq] at hi
        exact LWp.exit ⟨k, ⟨hk, by rw [hi, if_neg (by omega)]⟩, Ent.el ⟨rfl, rfl, trivial⟩⟩
    · rw [drop_nil hc] at hi
      refine LWp.x (gs := [(10, false)]) (hs := []) rfl (by simp [hc]) ?_
      refine LWp.ite (b := false) rfl (fun hb => by cases hb) (fun hb => ?_)
      exact LWp.exit ⟨k, ⟨hk, by rw [hi, if_pos (by omega)]; rfl⟩, Ent.el ⟨rfl, rfl, trivial⟩⟩
  · rintro k ⟨hk, hi⟩
    refine LWp.seq (LWp.seq ?_)
    refine LWp.x (gs := []) (hs := []) rfl trivial ?_
    refine LWp.ite rfl (fun hb => ?_) (fun hb => ?_)
    · simp only [List.length_map, beq_iff_eq, Int.natCast_inj] at hb
      refine LWp.sx (gs := []) (hs := []) rfl trivial ?_
      refine LWp.ret (retT (.inr rfl) (.one (.tmp ?_ rfl)))
      rw [hi, if_pos hb]; rfl
    · simp only [List.length_map, beq_eq_false_iff_ne, ne_eq, Int.natCast_inj] at hb
      refine LWp.skip ?_
      refine LWp.sx (gs := []) (hs := []) rfl trivial ?_
      refine LWp.ret (retT (.inr rfl) (.one (.tmp ?_ rfl)))
      rw [hi, if_neg hb]; rfl

def freshE (s : List UInt8) (l : List (List UInt8)) : Int := if nameB s = true then (if l.any (fun x => x == s) = true then 5 else 0) else 6
theorem fresh_ev (s : List UInt8) (hl : s.length ≤ 9223372036854775807) (l : List (List UInt8)) : Ev Try.prog 56 [Str s, strs l] (I (freshE s l)) := by
  refine Ev.intro fn56 ?_
  refine LWp.sx (gs := []) (hs := []) rfl trivial ?_
  refine LWp.sx (gs := []) (hs := []) rfl trivial ?_
  refine LWp.cutX (fun _ : Unit => True) (fun _ => el [(0, Str s), (5, I (if l.any (fun x => x == s) = true then 5 else 0))]) (fun _ => []) (fun _ => []) ?_ ?_
  · refine LWp.sx (gs := []) (hs := [.ret (I (idxF (fun x => x == s) l 0))]) rfl ⟨where_ev l s, trivial⟩ ?_
    have hg := idxF_ge (fun x => x == s) l 0 (by omega)
    refine LWp.ite rfl (fun hb => ?_) (fun hb => ?_)
    · rw [hg] at hb
      refine LWp.x (gs := []) (hs := []) rfl trivial ?_
      exact ⟨(), trivial, Ent.el ⟨rfl, by rw [hb]; rfl, trivial⟩⟩
    · rw [hg] at hb
      exact LWp.skip ⟨(), trivial, Ent.el ⟨rfl, by rw [hb]; rfl, trivial⟩⟩
  intro _ _
  refine LWp.cutX (fun _ : Unit => True) (fun _ => el [(5, I (freshE s l))]) (fun _ => []) (fun _ => []) ?_ ?_
  · refine LWp.sx (gs := []) (hs := [.ret (B (nameB s))]) rfl ⟨rname_ev s hl, trivial⟩ ?_
    refine LWp.ite rfl (fun hb => ?_) (fun hb => ?_)
    · simp only [Bool.not_eq_true'] at hb
      refine LWp.x (gs := []) (hs := []) rfl trivial ?_
      exact ⟨(), trivial, Ent.el ⟨by simp only [freshE, hb, Bool.false_eq_true, if_false]; rfl, trivial⟩⟩
    · simp only [Bool.not_eq_false'] at hb
      exact LWp.skip ⟨(), trivial, Ent.el ⟨by simp only [freshE, hb, if_true]; rfl, trivial⟩⟩
  intro _ _
  refine LWp.sx (gs := []) (hs := []) rfl trivial ?_
  refine LWp.ret (retT (.inr rfl) (.one (.tmp ?_ rfl)))
  rfl

theorem all_ev (n : Int) (h0 : 0 ≤ n) (h1 : n < 62) : Ev Try.prog 94 [I n] (I (2 ^ n.toNat - 1)) := by
  refine Ev.intro fn94 ?_
  refine LWp.sx (gs := []) (hs := []) rfl trivial ?_
  refine LWp.sx (gs := []) (hs := []) rfl trivial ?_
  refine LWp.seq (LWp.seq ?_)
  refine LWp.x (gs := []) (hs := []) rfl trivial ?_
  refine LWp.blockT (fun _ : Unit => True) (fun _ => el [(3, I (2 ^ n.toNat - 1))]) (fun _ => []) (fun _ => []) ?_ ?_
  · refine LWp.loopN (fun k : Nat => k ≤ n.toNat) (fun k => el [(0, I n), (3, I (2 ^ k - 1)), (4, I k)]) (fun _ => []) (fun _ => []) (fun k => n.toNat - k) 0 (by omega)
      (Ent.el ⟨rfl, rfl, rfl, trivial⟩) ?_
    intro k hk
    have hp := pow2_le (k := k) (by omega)
    have hp0 : (0 : Int) < 2 ^ k := Int.pow_pos (by omega)
    refine LWp.seq (LWp.seq ?_)
    refine LWp.x (gs := []) (hs := []) rfl trivial ?_
    refine LWp.ite rfl (fun hc => ?_) (fun hc => ?_)
    · simp only [decide_eq_true_eq] at hc
      refine LWp.skip (LWp.seq (LWp.block ?_))
      refine LWp.x (gs := []) (hs := []) rfl ⟨by omega, by omega, trivial⟩ ?_
      refine LWp.x (gs := []) (hs := []) rfl ⟨by omega, trivial⟩ ?_
      refine ⟨k + 1, by omega, by omega, Ent.el ⟨rfl, ?_, rfl, trivial⟩⟩
      show I _ = I _
      congr 2
      rw [Int.pow_succ]; omega
    · simp only [decide_eq_false_iff_not] at hc
      refine LWp.exit ⟨(), trivial, Ent.el ⟨?_, trivial⟩⟩
      rw [show n.toNat = k by omega]; rfl
  · intro _ _
    refine LWp.sx (gs := []) (hs := []) rfl trivial ?_
    refine LWp.ret (retT (.inr rfl) (.one (.tmp ?_ rfl)))
    rfl

theorem rletter_ev (a : Alph) (c : Int) (hl : a.ls.length ≤ 1000) : Ev Try.prog 95 [.agg a.enc, U c] (I (indexC a.ls c)) := by
  refine Ev.intro fn95 ?_
  refine LWp.sx (gs := []) (hs := [.ice]) rfl ⟨⟨rfl, rfl⟩, trivial⟩ ?_
  refine LWp.seq (LWp.seq ?_)
  refine LWp.x (gs := []) (hs := []) rfl trivial ?_
  refine LWp.blockT (fun _ : Unit => indexC a.ls c = -1) (fun _ => el []) (fun _ => []) (fun _ => []) ?_ ?_
  · refine LWp.loopN (fun k : Nat => k ≤ a.ls.length ∧ indexC a.ls c = idxF (fun x => x.c == c) (a.ls.drop k) k) (fun k => el [(1, U c), (2, .pi a.enc), (5, I k)]) (fun _ => []) (fun _ => []) (fun k => a.ls.length - k) 0 ⟨by omega, rfl⟩
      (Ent.el ⟨rfl, rfl, rfl, trivial⟩) ?_
    rintro k ⟨hk, hi⟩
    refine LWp.seq (LWp.seq ?_)
    refine LWp.x (gs := []) (hs := []) rfl trivial ?_
    refine LWp.ite rfl (fun hc => ?_) (fun hc => ?_)
    · simp only [List.length_map, decide_eq_true_eq, Int.ofNat_lt] at hc
      obtain ⟨x, hx⟩ := ex_get hc
      rw [drop_cons hx, idxF] at hi
      refine LWp.skip (LWp.seq (LWp.block ?_))
      refine LWp.seq ?_
      refine LWp.x (gs := []) (hs := [.cells x.enc]) rfl ⟨⟨by omega, by simp [hx]⟩, trivial⟩ ?_
      refine LWp.ite rfl (fun hb => ?_) (fun hb => ?_)
      · refine LWp.sx (gs := []) (hs := []) rfl trivial ?_
        refine LWp.ret (retT (.inr rfl) (.one (.tmp ?_ rfl)))
        rw [hi, if_pos hb]; rfl
      · rw [if_neg (by rw [hb]; simp)] at hi
        refine LWp.skip ?_
        refine LWp.x (gs := []) (hs := []) rfl ⟨by omega, trivial⟩ ?_
        exact ⟨k + 1, ⟨hc, hi⟩, by omega, Ent.el ⟨rfl, rfl, rfl, trivial⟩⟩
    · simp only [List.length_map, decide_eq_false_iff_not, Int.ofNat_lt] at hc
      rw [drop_nil hc] at hi
      exact LWp.exit ⟨(), hi, Ent.el trivial⟩
  · intro _ h
    refine LWp.sx (gs := []) (hs := []) rfl trivial ?_
    refine LWp.ret (retT (.inr rfl) (.one (.tmp ?_ rfl)))
    rw [h]; rfl
end Go.Px

