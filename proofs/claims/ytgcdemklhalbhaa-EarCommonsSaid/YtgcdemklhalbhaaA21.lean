/- Part 21 of the proof of the statements of this seat (a logic of pure contracts, the functions lowered, their contracts, the statements). No conditions. -/
import Derived.Test.YtgcdemklhalbhaaA20
import Derived.Test.YtgcdemklhalbhaaRows
namespace Go.Px
open Go.Proofs Go.Proofs.Ytgcdemklhalbhaa
open Go.ChangeShapes Go.WideShapes Go.ChangeAt Go.RowKit

def letterSh : Sh := .st [.int .u8, .int .i64, .bool]
def alphSh : Sh := .st [.str, .sl letterSh]
def spellSh : Sh := .st [.int .i64, .str]
def bookSh : Sh := .st [.int .i64, .sl alphSh, .sl spellSh]
def intsSh : Sh := .sl (.int .i64)

theorem fits_list {α : Type} {p : α → Prop} {enc : α → List AV} {s : Sh} (h : ∀ l, Fits s l → ∃ a, p a ∧ l = enc a) : ∀ {es : List (List AV)}, (∀ e ∈ es, Fits s e) → ∃ l : List α, (∀ a ∈ l, p a) ∧ es = l.map enc
  | [], _ => ⟨[], by simp, rfl⟩
  | e :: es, he => by
    obtain ⟨l, h1, h2⟩ := fits_list h (es := es) (fun x hx => he x (List.mem_cons_of_mem _ hx))
    obtain ⟨a, ha, hl⟩ := h e (he e (List.mem_cons_self ..))
    refine ⟨a :: l, ?_, by simp [hl, h2]⟩
    intro x hx
    rcases List.mem_cons.1 hx with rfl | hx
    · exact ha
    · exact h1 x hx

theorem fits_letter (l : List AV) (h : Fits letterSh l) : ∃ a : Letter, a.wf ∧ l = a.enc := by
  simp only [letterSh, Fits, FitsL] at h
  obtain ⟨_, _, rfl, ⟨c, rfl, hc⟩, _, _, rfl, ⟨s, rfl, hs⟩, _, _, rfl, ⟨q, rfl⟩, rfl⟩ := h
  have := bounds_u8 hc
  have := bounds_i64 hs
  exact ⟨⟨c, s, q⟩, ⟨by simp only; omega, by simp only; omega, by simp only; omega, by simp only; omega⟩, rfl⟩
theorem fits_alph (l : List AV) (h : Fits alphSh l) : ∃ a : Alph, a.wf ∧ l = a.enc := by
  simp only [alphSh, Fits, FitsL] at h
  obtain ⟨_, _, rfl, ⟨s, rfl, hs⟩, _, _, rfl, ⟨es, rfl, _, hes⟩, rfl⟩ := h
  obtain ⟨ls, h1, rfl⟩ := fits_list fits_letter hes
  exact ⟨⟨s.data.toList, ls⟩, ⟨by unfold maxLen at hs; simpa using hs, h1⟩, rfl⟩
theorem fits_spell (l : List AV) (h : Fits spellSh l) : ∃ a : Spelling, a.wf ∧ l = a.enc := by
  simp only [spellSh, Fits, FitsL] at h
  obtain ⟨_, _, rfl, ⟨c, rfl, hc⟩, _, _, rfl, ⟨s, rfl, hs⟩, rfl⟩ := h
  have := bounds_i64 hc
  exact ⟨⟨c, s.data.toList⟩, ⟨by simp only; omega, by simp only; omega, by unfold maxLen at hs; simpa using hs⟩, rfl⟩
theorem fits_book (a : AV) (h : FitA bookSh a) : ∃ b : Book, b.wf ∧ b.al.length ≤ 9223372036854775807 ∧ b.ss.length ≤ 9223372036854775807 ∧ a = .agg b.enc := by
  simp only [bookSh, FitA, Fits, FitsL] at h
  obtain ⟨_, rfl, _, _, rfl, ⟨c, rfl, hc⟩, _, _, rfl, ⟨es, rfl, hl, hes⟩, _, _, rfl, ⟨es', rfl, hl', hes'⟩, rfl⟩ := h
  have := bounds_i64 hc
  obtain ⟨al, h1, rfl⟩ := fits_list fits_alph hes
  obtain ⟨ss, h2, rfl⟩ := fits_list fits_spell hes'
  unfold maxLen at hl hl'
  exact ⟨⟨c, al, ss⟩, ⟨by simp only; omega, by simp only; omega, h1, h2⟩, by simpa using hl, by simpa using hl', rfl⟩
theorem fits_int1 (l : List AV) (h : Fits (.int .i64) l) : ∃ a : Int, (-9223372036854775808 ≤ a ∧ a ≤ 9223372036854775807) ∧ l = [I a] := by
  simp only [Fits] at h
  obtain ⟨n, rfl, hn⟩ := h
  exact ⟨n, bounds_i64 hn, rfl⟩
theorem fits_int (a : AV) (h : FitA (.int .i64) a) : ∃ i : Int, (-9223372036854775808 ≤ i ∧ i ≤ 9223372036854775807) ∧ a = I i := by
  simp only [FitA, Fits] at h
  obtain ⟨n, h, hn⟩ := h
  simp only [List.cons.injEq, and_true] at h
  exact ⟨n, bounds_i64 hn, h⟩
theorem fits_str (a : AV) (h : FitA .str a) : ∃ s : List UInt8, s.length ≤ 9223372036854775807 ∧ a = Str s := by
  simp only [FitA, Fits] at h
  obtain ⟨n, h, hn⟩ := h
  simp only [List.cons.injEq, and_true] at h
  exact ⟨n.data.toList, by unfold maxLen at hn; simpa using hn, h⟩
theorem fits_ints (a : AV) (h : FitA intsSh a) : ∃ l : List Int, (∀ i ∈ l, -9223372036854775808 ≤ i ∧ i ≤ 9223372036854775807) ∧ l.length ≤ 9223372036854775807 ∧ a = ints l := by
  simp only [intsSh, FitA, Fits.eq_4] at h
  obtain ⟨es, h, hl, hes⟩ := h
  simp only [List.cons.injEq, and_true] at h
  obtain ⟨l, h1, rfl⟩ := fits_list fits_int1 hes
  exact ⟨l, h1, by unfold maxLen at hl; simpa using hl, h⟩

theorem fits_two (a : AV) (h : FitA (.arr 2 (.int .i64)) a) : ∃ i j : Int, (-9223372036854775808 ≤ i ∧ i ≤ 9223372036854775807) ∧ (-9223372036854775808 ≤ j ∧ j ≤ 9223372036854775807) ∧ a = .agg [I i, I j] := by
  simp only [FitA, FitN, Fits] at h
  obtain ⟨_, rfl, _, _, rfl, ⟨i, rfl, hi⟩, _, _, rfl, ⟨j, rfl, hj⟩, rfl⟩ := h
  exact ⟨i, j, bounds_i64 hi, bounds_i64 hj, rfl⟩

theorem own : ownKnob Try.prog.godebug = none := by kernel_rfl
theorem laid : laidOutB Try.prog = true := by kernel_rfl

end Go.Px

