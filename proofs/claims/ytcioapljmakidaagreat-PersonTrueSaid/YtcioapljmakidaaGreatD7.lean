/- Part 7 of the proofs of the statements of this seat (a logic of pure contracts, the functions lowered, their contracts). No conditions. -/
import Derived.Test.YtcioapljmakidaaGreatD6
import Derived.ProofKit
import Derived.OpenShut
import Derived.Carry
import Derived.Test.YtcioapljmakidaaGreatRows
namespace Go.Px
open Go.ChangeShapes Go.WideShapes Go.ChangeAt Go.RowKit
inductive Sh where
  | int (k : IntKind)
  | bool
  | str
  | sl (s : Sh)
  | arr (n : Nat) (s : Sh)
  | st (l : List Sh)
mutual
def Sh.sz : Sh → Nat
  | .int _ => 1
  | .bool => 1
  | .str => 1
  | .sl _ => 1
  | .arr n s => n * s.sz
  | .st l => Sh.szL l
def Sh.szL : List Sh → Nat
  | [] => 0
  | s :: l => s.sz + Sh.szL l
end
mutual
def Sh.ok (P : Program) : Sh → TypeId → Bool
  | .int k, t => match P.underlying t with | some (.int k') => decide (k = k') | _ => false
  | .bool, t => match P.underlying t with | some .bool => true | _ => false
  | .str, t => match P.underlying t with | some .string => true | _ => false
  | .sl s, t => match P.underlying t with | some (.slice e) => P.cellsOf e == s.sz && decide (0 < s.sz) && s.ok P e | _ => false
  | .arr n s, t => match P.underlying t with | some (.array n' e) => n' == n && P.cellsOf t == n * s.sz && P.cellsOf e == s.sz && s.ok P e | _ => false
  | .st l, t => match P.underlying t with | some (.struct fs) => P.cellsOf t == Sh.szL l && Sh.okL P l fs.toList 0 | _ => false
def Sh.okL (P : Program) : List Sh → List Field → Nat → Bool
  | [], [], _ => true
  | s :: l, f :: fs, o => f.offset == o && P.cellsOf f.type == s.sz && s.ok P f.type && Sh.okL P l fs (o + s.sz)
  | _, _, _ => false
end
def FitN (p : List AV → Prop) : Nat → List AV → Prop
  | 0, l => l = []
  | n + 1, l => ∃ l1 l2, l = l1 ++ l2 ∧ p l1 ∧ FitN p n l2
theorem FitN.len {p : List AV → Prop} {k : Nat} (h : ∀ l, p l → l.length = k ∧ l.all AV.isCell = true) : ∀ (n : Nat) (l : List AV), FitN p n l → l.length = n * k ∧ l.all AV.isCell = true
  | 0, l, hl => by simp only [FitN] at hl; subst hl; simp
  | n + 1, l, hl => by
    simp only [FitN] at hl
    obtain ⟨l1, l2, rfl, h1, h2⟩ := hl
    have a := h l1 h1
    have b := FitN.len h n l2 h2
    exact ⟨by rw [List.length_append, a.1, b.1, Nat.add_mul]; omega, by rw [List.all_append, a.2, b.2]; rfl⟩
mutual
def Fits : Sh → List AV → Prop
  | .int k, l => ∃ n, l = [.v (.int k n)] ∧ (Lit.int k n).wf = true
  | .bool, l => ∃ b, l = [.v (.bool b)]
  | .str, l => ∃ s : ByteArray, l = [.v (.string s)] ∧ s.size ≤ maxLen
  | .sl s, l => ∃ es, l = [.sl s.sz es] ∧ es.length ≤ maxLen ∧ ∀ e ∈ es, Fits s e
  | .arr n s, l => FitN (Fits s) n l
  | .st ss, l => FitsL ss l
def FitsL : List Sh → List AV → Prop
  | [], l => l = []
  | s :: ss, l => ∃ l1 l2, l = l1 ++ l2 ∧ Fits s l1 ∧ FitsL ss l2
end
mutual
theorem Fits.len : ∀ (s : Sh) (l : List AV), Fits s l → l.length = s.sz ∧ l.all AV.isCell = true
  | .int k, l, h => by simp only [Fits] at h; obtain ⟨n, rfl, _⟩ := h; simp [Sh.sz, AV.isCell, Value.oneCell']
  | .bool, l, h => by simp only [Fits] at h; obtain ⟨n, rfl⟩ := h; simp [Sh.sz, AV.isCell, Value.oneCell']
  | .str, l, h => by simp only [Fits] at h; obtain ⟨n, rfl, _⟩ := h; simp [Sh.sz, AV.isCell, Value.oneCell']
  | .sl s, l, h => by simp only [Fits] at h; obtain ⟨n, rfl, _⟩ := h; simp [Sh.sz, AV.isCell]
  | .arr n s, l, h => by simp only [Fits] at h; simpa only [Sh.sz] using FitN.len (fun l hl => Fits.len s l hl) n l h
  | .st ss, l, h => by simp only [Fits] at h; simpa only [Sh.sz] using FitsL.len ss l h
theorem FitsL.len : ∀ (ss : List Sh) (l : List AV), FitsL ss l → l.length = Sh.szL ss ∧ l.all AV.isCell = true
  | [], l, h => by simp only [FitsL] at h; subst h; simp [Sh.szL]
  | s :: ss, l, h => by
    simp only [FitsL] at h
    obtain ⟨l1, l2, rfl, h1, h2⟩ := h
    have a := Fits.len s l1 h1
    have b := FitsL.len ss l2 h2
    exact ⟨by simp [Sh.szL, a.1, b.1], by rw [List.all_append, a.2, b.2]; rfl⟩
end
section
variable {H : Type} {enc : TypeId × Value → H} {P : Program} {W : World} {base : Nat} {held : Bool}
theorem cells_repC : ∀ {l : List AV} {cs : List Value} {b o : Nat}, RepL (Snap.ofWorld W) l cs → l.all AV.isCell = true → (∀ i, i < cs.length → W.cell? ⟨b, o + i, none⟩ = cs[i]?) → RepC (Snap.ofWorld W) l b o
  | [], _, _, _, _, _, _ => by simp only [RepC]
  | a :: l, cs, b, o, h, hc, hw => by
    simp only [RepL] at h
    obtain ⟨c, cs', rfl, h1, h2⟩ := h
    simp only [List.all_cons, Bool.and_eq_true] at hc
    simp only [RepC]
    have h0 := hw 0 (by simp)
    refine ⟨⟨c, by show W.cell? ⟨b, o, none⟩ = some c; simpa using h0, Rep.oneCell h1 hc.1, h1⟩, cells_repC h2 hc.2 (fun i hi => ?_)⟩
    have := hw (i + 1) (by simpa using hi)
    rw [show o + 1 + i = o + (i + 1) by omega]
    simpa using this
theorem cells?_get {b : Nat} {a : Addr} {n : Nat} {cs : List Value} (h : W.cells? b a n = some cs) : cs.length = n ∧ ∀ i, i < n → W.cell? (a.add i) = cs[i]? := by
  unfold World.cells? at h
  split at h
  · refine ⟨by simpa using mapM_some_length h, fun i hi => ?_⟩
    exact mapM_some_get h i i (by simp [hi])
  · cases h
theorem cell?_spot {a : Addr} {v : Value} (h : W.cell? a = some v) : a.spot = none := by
  unfold World.cell? at h
  cases hs : a.spot with
  | none => rfl
  | some x =>
    simp only [hs, Option.isSome_some, if_true] at h
    split at h <;> cases h
theorem slice_es {e : TypeId} {s : Sh} {n : Nat} {a : Addr} {len : Nat} {elems : List (DataW H × List MemPlace)} (hk : P.cellsOf e = s.sz)
    (ih : ∀ (cs : List Value) (x : DataW H × List MemPlace), DataW.trod enc P W base (fun _ => true) held n e cs = some x → ∃ l, RepL (Snap.ofWorld W) l cs ∧ Fits s l)
    (ha : a.spot = none) (hl : elems.length = len)
    (h : ∀ i, i < len → (W.cells? base (a.add (i * P.cellsOf e)) (P.cellsOf e)).bind (DataW.trod enc P W base (fun _ => true) held n e) = elems[i]?) :
    ∀ m, m ≤ len → ∃ es : List (List AV), es.length = m ∧ (∀ l ∈ es, Fits s l) ∧ RepE (Snap.ofWorld W) s.sz es a.block (a.off + (len - m) * s.sz)
  | 0, _ => ⟨[], rfl, by simp, by simp only [RepE]⟩
  | m + 1, hm => by
    obtain ⟨es, h1, h2, h3⟩ := slice_es hk ih ha hl h m (by omega)
    have hi := h (len - (m + 1)) (by omega)
    have hlt : len - (m + 1) < elems.length := by omega
    rw [List.getElem?_eq_getElem hlt, Option.bind_eq_some_iff] at hi
    obtain ⟨cs, hc, ht⟩ := hi
    obtain ⟨l, hr, hf⟩ := ih _ _ ht
    obtain ⟨hcl, hcg⟩ := cells?_get hc
    have hlen := Fits.len s l hf
    refine ⟨l :: es, by simp [h1], ?_, ?_⟩
    · intro x hx
      rcases List.mem_cons.1 hx with rfl | hx
      · exact hf
      · exact h2 x hx
    · simp only [RepE]
      refine ⟨hlen.1, cells_repC hr hlen.2 (fun i hi => ?_), ?_⟩
      · have := hcg i (by omega)
        rw [hk] at this
        rw [← this]
        cases a
        simp only at ha
        subst ha
        simp only [addr_add]
      · rw [show a.off + (len - (m + 1)) * s.sz + s.sz = a.off + (len - m) * s.sz by
          rw [show len - m = len - (m + 1) + 1 by omega, Nat.add_mul]; omega]
        exact h3
theorem arr_ls {e : TypeId} {s : Sh} {n : Nat} {cs : List Value} {xs : List (DataW H × List MemPlace)} {N : Nat} (hk : P.cellsOf e = s.sz)
    (ih : ∀ (cs : List Value) (x : DataW H × List MemPlace), DataW.trod enc P W base (fun _ => true) held n e cs = some x → ∃ l, RepL (Snap.ofWorld W) l cs ∧ Fits s l)
    (hl : xs.length = N) (hc : cs.length = N * s.sz)
    (h : ∀ i, i < N → DataW.trod enc P W base (fun _ => true) held n e ((cs.drop (i * P.cellsOf e)).take (P.cellsOf e)) = xs[i]?) :
    ∀ m, m ≤ N → ∃ l : List AV, RepL (Snap.ofWorld W) l (cs.drop ((N - m) * s.sz)) ∧ FitN (Fits s) m l
  | 0, _ => ⟨[], by simp only [RepL]; exact List.drop_eq_nil_of_le (by rw [hc]; exact Nat.le_refl _), by simp only [FitN]⟩
  | m + 1, hm => by
    obtain ⟨l2, r2, f2⟩ := arr_ls hk ih hl hc h m (by omega)
    have hi := h (N - (m + 1)) (by omega)
    rw [List.getElem?_eq_getElem (by omega)] at hi
    obtain ⟨l1, r1, f1⟩ := ih _ _ hi
    refine ⟨l1 ++ l2, ?_, by simp only [FitN]; exact ⟨l1, l2, rfl, f1, f2⟩⟩
    have := r1.append r2
    rw [hk] at this
    rw [show N - m = N - (m + 1) + 1 by omega, Nat.add_mul, Nat.one_mul] at this
    generalize (N - (m + 1)) * s.sz = o at this
    rw [show cs.drop o = (cs.drop o).take s.sz ++ cs.drop (o + s.sz) by rw [← List.drop_drop, List.take_append_drop]]
    exact this
mutual
theorem reads : ∀ (s : Sh) (t : TypeId) (n : Nat) (cs : List Value) (x : DataW H × List MemPlace), s.ok P t = true → DataW.trod enc P W base (fun _ => true) held n t cs = some x → ∃ l, RepL (Snap.ofWorld W) l cs ∧ Fits s l
  | .int k, t, n, cs, x, hs, h => by
    simp only [Sh.ok] at hs
    split at hs
    · rename_i k' ht
      have hk := of_decide_eq_true hs
      subst hk
      obtain ⟨n, rfl, _, hw⟩ := DataW.trod_int ht h
      exact ⟨[.v (.int k n)], by simp [RepL, Rep], by simp only [Fits]; exact ⟨n, rfl, hw⟩⟩
    · cases hs
  | .bool, t, n, cs, x, hs, h => by
    simp only [Sh.ok] at hs
    split at hs
    · rename_i ht
      obtain ⟨b, rfl, _⟩ := DataW.trod_bool ht h
      exact ⟨[.v (.bool b)], by simp [RepL, Rep], by simp only [Fits]; exact ⟨b, rfl⟩⟩
    · cases hs
  | .str, t, n, cs, x, hs, h => by
    simp only [Sh.ok] at hs
    split at hs
    · rename_i ht
      obtain ⟨b, rfl, _, hw⟩ := DataW.trod_string ht h
      exact ⟨[.v (.string b)], by simp [RepL, Rep], by simp only [Fits]; exact ⟨b, rfl, hw⟩⟩
    · cases hs
  | .sl s, t, n, cs, x, hs, h => by
    simp only [Sh.ok] at hs
    split at hs
    · rename_i e' ht
      simp only [Bool.and_eq_true, beq_iff_eq, decide_eq_true_eq] at hs
      obtain ⟨⟨hk, h0⟩, hs⟩ := hs
      rcases DataW.trod_slice ht h with ⟨rfl, _⟩ | ⟨a, len, cap, elems, rest, n', rfl, rfl, _, hb, hle, hcap, hel, helems, hrest, _⟩
      · exact ⟨[.sl s.sz []], by simp only [RepL, Rep]; exact ⟨_, _, rfl, .inl ⟨⟨_, rfl⟩, trivial⟩, rfl⟩, by simp only [Fits]; exact ⟨[], rfl, by simp, by simp⟩⟩
      · by_cases hc : cap = 0
        · have hl0 : len = 0 := by omega
          subst hc hl0
          exact ⟨[.sl s.sz []], by simp only [RepL, Rep]; exact ⟨_, _, rfl, .inl ⟨⟨_, rfl⟩, trivial⟩, rfl⟩, by simp only [Fits]; exact ⟨[], rfl, by simp, by simp⟩⟩
        · have hsp : a.spot = none := by
            obtain ⟨hr1, hr2⟩ := hrest rfl
            have hex : ∃ cs, W.cells? base (a.add 0) (P.cellsOf e') = some cs := by
              by_cases hl0 : len = 0
              · have := hr2 0 (by omega)
                subst hl0
                rw [List.getElem?_eq_getElem (by omega), Option.bind_eq_some_iff] at this
                obtain ⟨cs, hcs, _⟩ := this
                exact ⟨cs, by simpa using hcs⟩
              · have := helems 0 (by omega)
                rw [List.getElem?_eq_getElem (by omega), Option.bind_eq_some_iff] at this
                obtain ⟨cs, hcs, _⟩ := this
                exact ⟨cs, by simpa using hcs⟩
            obtain ⟨cs, hcs⟩ := hex
            obtain ⟨hl, hg⟩ := cells?_get hcs
            have := hg 0 (by omega)
            rw [List.getElem?_eq_getElem (by omega)] at this
            have := cell?_spot this
            cases a
            simpa [Addr.add] using this
          obtain ⟨es, he1, he2, he3⟩ := slice_es (P := P) (s := s) hk (fun cs x hx => reads s e' n' cs x hs hx) hsp hel helems len (Nat.le_refl _)
          refine ⟨[.sl s.sz es], ?_, by simp only [Fits]; exact ⟨es, rfl, by omega, he2⟩⟩
          simp only [RepL, Rep]
          refine ⟨_, _, rfl, .inr ⟨a.block, a.off, cap, ?_, by omega, hcap, by simpa using he3⟩, rfl⟩
          rw [he1]
          cases a
          simp only at hsp
          subst hsp
          rfl
    · cases hs
  | .arr N s, t, n, cs, x, hs, h => by
    simp only [Sh.ok] at hs
    split at hs
    · rename_i n' e' ht
      simp only [Bool.and_eq_true, beq_iff_eq] at hs
      obtain ⟨⟨⟨rfl, hk⟩, hke⟩, hs⟩ := hs
      obtain ⟨xs, m, rfl, _, hl, hxl, hf⟩ := DataW.trod_array ht h
      obtain ⟨l, h1, h2⟩ := arr_ls (P := P) (s := s) hke (fun cs x hx => reads s e' m cs x hs hx) hxl (by omega) hf n' (Nat.le_refl _)
      exact ⟨l, by simpa using h1, by simp only [Fits]; exact h2⟩
    · cases hs
  | .st ss, t, n, cs, x, hs, h => by
    simp only [Sh.ok] at hs
    split at hs
    · rename_i fs ht
      simp only [Bool.and_eq_true, beq_iff_eq] at hs
      obtain ⟨hk, hs⟩ := hs
      obtain ⟨xs, n', rfl, _, hl, hxl, hf⟩ := DataW.trod_struct ht h
      obtain ⟨l, h1, h2⟩ := readsL ss fs.toList 0 n' cs xs hs (by omega) (by simpa using hxl) (fun i f hfi => hf i f (by simpa using hfi))
      exact ⟨l, by simpa using h1, by simp only [Fits]; exact h2⟩
    · cases hs
theorem readsL : ∀ (ss : List Sh) (fs : List Field) (o n : Nat) (cs : List Value) (xs : List (DataW H × List MemPlace)), Sh.okL P ss fs o = true → cs.length = o + Sh.szL ss → xs.length = fs.length →
    (∀ (i : Nat) (f : Field), fs[i]? = some f → DataW.trod enc P W base (fun _ => true) held n f.type ((cs.drop f.offset).take (P.cellsOf f.type)) = xs[i]?) → ∃ l, RepL (Snap.ofWorld W) l (cs.drop o) ∧ FitsL ss l
  | [], [], o, n, cs, xs, _, hl, _, _ => ⟨[], by simp only [RepL]; simp only [Sh.szL] at hl; exact List.drop_eq_nil_of_le (by omega), by simp only [FitsL]⟩
  | [], f :: fs, o, n, cs, xs, hs, _, _, _ => by simp [Sh.okL] at hs
  | s :: ss, [], o, n, cs, xs, hs, _, _, _ => by simp [Sh.okL] at hs
  | s :: ss, f :: fs, o, n, cs, xs, hs, hl, hx, h => by
    simp only [Sh.okL, Bool.and_eq_true, beq_iff_eq] at hs
    obtain ⟨⟨⟨ho, hk⟩, h1⟩, h2⟩ := hs
    simp only [Sh.szL] at hl
    match xs, hx with
    | x :: xs, hx =>
      have h0 := h 0 f (by simp)
      obtain ⟨l1, r1, f1⟩ := reads s f.type n _ x h1 (by simpa using h0)
      obtain ⟨l2, r2, f2⟩ := readsL ss fs (o + s.sz) n cs xs h2 (by omega) (by simpa using hx) (fun i g hg => by simpa using h (i + 1) g (by simpa using hg))
      refine ⟨l1 ++ l2, ?_, by simp only [FitsL]; exact ⟨l1, l2, rfl, f1, f2⟩⟩
      have := r1.append r2
      rw [ho, hk] at this
      rw [show cs.drop o = (cs.drop o).take s.sz ++ cs.drop (o + s.sz) by rw [← List.drop_drop, List.take_append_drop]]
      exact this
end
end
end Go.Px

namespace Go.Px
open Go.ChangeShapes Go.WideShapes Go.ChangeAt Go.RowKit
def FitA : Sh → AV → Prop
  | .st ss, a => ∃ l, a = .agg l ∧ FitsL ss l
  | .arr n s, a => ∃ l, a = .agg l ∧ FitN (Fits s) n l
  | s, a => Fits s [a]
def FitAs : List Sh → List AV → Prop
  | [], zs => zs = []
  | s :: ss, zs => ∃ a zs', zs = a :: zs' ∧ FitA s a ∧ FitAs ss zs'
def paramsOK (P : Program) : List Sh → List TypeId → Bool
  | [], [] => true
  | s :: ss, t :: ts => s.ok P t && P.readableRec t && decide (t < P.types.size) && paramsOK P ss ts
  | _, _ => false
section
variable {H : Type} {enc : TypeId × Value → H} {P : Program} {W : World}
theorem arg_of {s : Sh} {t : TypeId} {b : Nat} {v : Value} {d : DataW H} {p : List MemPlace} (hs : s.ok P t = true) (hval : Value.okWide P W .any b t v) (h : DataW.Trod enc P W 0 (fun _ => true) true t v d p) :
    ∃ a, Rep (Snap.ofWorld W) a v ∧ FitA s a := by
  obtain ⟨fuel, h⟩ := h
  obtain ⟨l, hr, hf⟩ := reads s t fuel _ _ hs h
  have one : ∀ {a : AV}, RepL (Snap.ofWorld W) [a] v.cells.toList → (∀ cs, v ≠ .agg cs) → v.cells = #[v] → Rep (Snap.ofWorld W) a v := by
    intro a hr _ hc
    rw [hc] at hr
    simp only [RepL, List.cons.injEq] at hr
    obtain ⟨c, cs', ⟨rfl, _⟩, h1, _⟩ := hr
    exact h1
  cases s with
  | int k =>
    simp only [Sh.ok] at hs
    split at hs
    · rename_i k' ht
      obtain ⟨n, rfl⟩ := okWide_int ht hval
      simp only [Fits] at hf
      obtain ⟨m, rfl, hw⟩ := hf
      exact ⟨_, one hr (by intro cs h; cases h) rfl, by simp only [FitA, Fits]; exact ⟨m, rfl, hw⟩⟩
    · cases hs
  | bool =>
    simp only [Sh.ok] at hs
    split at hs
    · rename_i ht
      obtain ⟨n, rfl⟩ := okWide_bool ht hval
      simp only [Fits] at hf
      obtain ⟨m, rfl⟩ := hf
      exact ⟨_, one hr (by intro cs h; cases h) rfl, by simp only [FitA, Fits]; exact ⟨m, rfl⟩⟩
    · cases hs
  | str =>
    simp only [Sh.ok] at hs
    split at hs
    · rename_i ht
      obtain ⟨n, rfl⟩ := okWide_string ht hval
      simp only [Fits] at hf
      obtain ⟨m, rfl, hw⟩ := hf
      exact ⟨_, one hr (by intro cs h; cases h) rfl, by simp only [FitA, Fits]; exact ⟨m, rfl, hw⟩⟩
    · cases hs
  | sl s =>
    simp only [Sh.ok] at hs
    split at hs
    · rename_i e' ht
      have hv : ∃ a n c, v = .slice a n c := by
        simp only [Value.okWide, ht, Cell.okWide] at hval
        cases v <;> simp_all [Cell.ok]
      obtain ⟨ad, n, c, rfl⟩ := hv
      simp only [Fits] at hf
      obtain ⟨m, rfl, hw⟩ := hf
      exact ⟨_, one hr (by intro cs h; cases h) rfl, by simp only [FitA, Fits]; exact ⟨m, rfl, hw⟩⟩
    · cases hs
  | arr N s =>
    simp only [Sh.ok] at hs
    split at hs
    · rename_i n' e' ht
      have hv : ∃ cs, v = .agg cs := by
        simp only [Value.okWide, ht] at hval
        obtain ⟨cs, h, _⟩ := hval
        exact ⟨cs, h⟩
      obtain ⟨cs, rfl⟩ := hv
      simp only [Fits] at hf
      exact ⟨.agg l, by simp only [Rep]; exact ⟨cs.toList, by simp, by simpa [Value.cells] using hr⟩, by simp only [FitA]; exact ⟨l, rfl, hf⟩⟩
    · cases hs
  | st ss =>
    simp only [Sh.ok] at hs
    split at hs
    · rename_i fs ht
      obtain ⟨cs, rfl, _⟩ := okWide_struct ht hval
      simp only [Fits] at hf
      exact ⟨.agg l, by simp only [Rep]; exact ⟨cs.toList, by simp, by simpa [Value.cells] using hr⟩, by simp only [FitA]; exact ⟨l, rfl, hf⟩⟩
    · cases hs
theorem args_of {b : Nat} : ∀ {ss : List Sh} {ts : List TypeId} {vs : List Value} {ds : List (DataW H)} {p : List MemPlace}, paramsOK P ss ts = true →
    (∀ (j : Nat) t v, ts[j]? = some t → vs[j]? = some v → Value.okWide P W .any b t v) → DataW.TrodAll enc P W 0 (fun _ => true) true ts vs ds p →
    ∃ zs, RepL (Snap.ofWorld W) zs vs ∧ FitAs ss zs ∧ ds.length = ts.length
  | [], [], vs, ds, p, _, _, h => by
    cases vs <;> cases ds <;> simp [DataW.TrodAll] at h
    exact ⟨[], by simp only [RepL], by simp only [FitAs], rfl⟩
  | [], _ :: _, _, _, _, h, _, _ => by simp [paramsOK] at h
  | _ :: _, [], _, _, _, h, _, _ => by simp [paramsOK] at h
  | s :: ss, t :: ts, vs, ds, p, hs, hval, h => by
    simp only [paramsOK, Bool.and_eq_true, decide_eq_true_eq] at hs
    obtain ⟨⟨⟨h1, _⟩, _⟩, h2⟩ := hs
    obtain ⟨v, vs', d, ds', p, q, rfl, rfl, _, ht, htl⟩ := trodAll_cons h
    obtain ⟨a, r1, f1⟩ := arg_of h1 (hval 0 t v (by simp) (by simp)) ht
    obtain ⟨zs, r2, f2, hl⟩ := args_of h2 (fun j t v e1 e2 => hval (j + 1) t v (by simpa using e1) (by simpa using e2)) htl
    exact ⟨a :: zs, by simp only [RepL]; exact ⟨v, vs', rfl, r1, r2⟩, by simp only [FitAs]; exact ⟨a, zs, rfl, f1, f2⟩, by simp [hl]⟩
theorem args_stay {W' : World} (hl : laidOutB P = true) (hb : Below W.heap.size W W') : ∀ {ss : List Sh} {ts : List TypeId} {vs : List Value} {ds : List (DataW H)} {p : List MemPlace}, paramsOK P ss ts = true →
    DataW.TrodAll enc P W 0 (fun _ => true) true ts vs ds p → DataW.TrodAll enc P W' 0 (fun b => decide (b < W.heap.size)) true ts vs ds p
  | [], [], vs, ds, p, _, h => by
    cases vs <;> cases ds <;> simp [DataW.TrodAll] at h ⊢
    exact h
  | [], _ :: _, _, _, _, h, _ => by simp [paramsOK] at h
  | _ :: _, [], _, _, _, h, _ => by simp [paramsOK] at h
  | s :: ss, t :: ts, vs, ds, p, hs, h => by
    simp only [paramsOK, Bool.and_eq_true, decide_eq_true_eq] at hs
    obtain ⟨⟨⟨_, hr⟩, hrow⟩, h2⟩ := hs
    have hlt := DataW.TrodAll.lt h
    obtain ⟨v, vs', d, ds', p, q, rfl, rfl, rfl, ht, htl⟩ := trodAll_cons h
    exact trodAll_cons_mk (Below.trod hl hr hrow ht hb (fun x hx => hlt x (List.mem_append_left _ hx))) (args_stay hl hb h2 htl)
end
theorem row_of_ev {H : Type} {enc : TypeId × Value → H} {C : Checked} {os : Os} {f : FuncId} {fn : Func} {s : ChangeSpec} {conds : List PathCond}
    (own : ownKnob C.prog.godebug = none) (started : os.Started) (noInit : C.prog.inits.idxOf? f = none) (hfn : C.prog.funcs[f]? = some fn)
    (witness : ∃ (w : World) (tape : Tape) (i : Input), w.os = os ∧ (w.forCall tape i).Shaped C.prog ∧ i.vars = [] ∧ Input.okWide C.prog (w.forCall tape i) .any w.heap.size f i ∧
      s.pre6 enc C.prog fn conds false (w.forCall tape i).memory i.args ∧ ({} : Assume).holds C.prog (lone (Frame.enter C.prog f i.args .normal) [] (w.forCall tape i)))
    (hl : laidOutB C.prog = true) (ss : List Sh) (hp : paramsOK C.prog ss fn.params.toList = true) (tb : TypeId) (hr : fn.resultTypes = #[tb]) (hb : C.prog.underlying tb = some .bool)
    (hv : s.vars = []) (hspec : ∀ ds : List (DataW H), ds.length = fn.params.toList.length → s.fn H ds = { results := [.lit (.bool true)], args := ds })
    (ev : ∀ zs, FitAs ss zs → Ev C.prog f zs (.v (.bool true))) :
    ReturnsInHanded {} C os f .any (s.pre6 enc C.prog fn conds false) (s.post enc C.prog fn false true false false) := by
  refine returnsInHanded_of_change own started noInit hfn witness ?_
  intro W base args ds gs before hval hW hcnd _
  have hW' := hW
  obtain ⟨p, q, hA, hV, rfl, hfz, hnd⟩ := hW
  rw [hv] at hV
  obtain ⟨rfl, rfl⟩ := trodVars_none hV
  obtain ⟨zs, hra, hfa, hlen⟩ := args_of hp (fun j t v h1 h2 => hval j t v (by simpa using h1) (by simpa using h2)) hA
  have hc := (ev zs hfa).2 (Snap.ofWorld W) W args.toList (Snap.ofWorld_in W) hra
  rw [Array.toArray_toList] at hc
  refine Calls.mono hc ?_
  rintro e W' ⟨v, S', g, he, _, _, _, hB, hrt⟩
  simp only [RepT, Rep] at hrt
  have hsp := hspec (ds ++ []) (by simpa using hlen)
  refine ⟨v, he, ds, [], p ++ [], [], p, [], hW', ?_, ?_, ?_, hB.frame _, fun h => by cases h⟩
  · rw [hsp, hr]
    obtain ⟨_, rfl⟩ := hrt
    exact trodAll_mk1 (shut_bool hb _)
  · rw [hsp, List.append_nil]
    exact args_stay hl hB hp hA
  · rw [hsp, hv]
    rfl
end Go.Px

namespace Go.Px
open Go.Proofs
open Go.ChangeShapes Go.WideShapes Go.ChangeAt Go.RowKit
def letterSh : Sh := .st [.int .u8, .int .i64, .bool]
def alphSh : Sh := .st [.str, .sl letterSh]
def spellSh : Sh := .st [.int .i64, .str]
def bookSh : Sh := .st [.int .i64, .sl alphSh, .sl spellSh]
def menSh : Sh := .st [.int .i64, .int .i64, .st [.int .i64, .int .i64], .int .i64]
def tieSh : Sh := .st [.int .i64, .int .i64, .bool]
def townSh : Sh := .st [bookSh, .int .i64, .sl menSh, .sl tieSh]
theorem fits_list {α : Type} {p : α → Prop} {enc : α → List AV} {s : Sh} (h : ∀ l, Fits s l → ∃ a, p a ∧ l = enc a) : ∀ {es : List (List AV)}, (∀ e ∈ es, Fits s e) → ∃ l : List α, (∀ a ∈ l, p a) ∧ es = l.map enc
  | [], _ => ⟨[], by simp, rfl⟩
  | e :: es, he => by
    obtain ⟨l, h1, h2⟩ := fits_list h (es := es) (fun x hx => he x (List.mem_cons_of_mem _ hx))
    obtain ⟨a, ha, hl⟩ := h e (he e (List.mem_cons_self ..))
    refine ⟨a :: l, ?_, by simp [hl, h2]⟩
    intro x hx
    rcases List.mem_cons.1 hx with rfl | hx
    · exact ha
    · exact h1 x hx
theorem fits_letter (l : List AV) (h : Fits letterSh l) : ∃ a : Letter, a.wf ∧ l = a.enc := by
  simp only [letterSh, Fits, FitsL] at h
  obtain ⟨_, _, rfl, ⟨c, rfl, hc⟩, _, _, rfl, ⟨s, rfl, hs⟩, _, _, rfl, ⟨q, rfl⟩, rfl⟩ := h
  have := bounds_u8 hc
  have := bounds_i64 hs
  exact ⟨⟨c, s, q⟩, ⟨by simp only; omega, by simp only; omega, by simp only; omega, by simp only; omega⟩, rfl⟩
theorem fits_alph (l : List AV) (h : Fits alphSh l) : ∃ a : Alph, a.wf ∧ l = a.enc := by
  simp only [alphSh, Fits, FitsL] at h
  obtain ⟨_, _, rfl, ⟨s, rfl, hs⟩, _, _, rfl, ⟨es, rfl, _, hes⟩, rfl⟩ := h
  obtain ⟨ls, h1, rfl⟩ := fits_list fits_letter hes
  exact ⟨⟨s.data.toList, ls⟩, ⟨by unfold maxLen at hs; simpa using hs, h1⟩, rfl⟩
theorem fits_spell (l : List AV) (h : Fits spellSh l) : ∃ a : Spelling, a.wf ∧ l = a.enc := by
  simp only [spellSh, Fits, FitsL] at h
  obtain ⟨_, _, rfl, ⟨c, rfl, hc⟩, _, _, rfl, ⟨s, rfl, hs⟩, rfl⟩ := h
  have := bounds_i64 hc
  exact ⟨⟨c, s.data.toList⟩, ⟨by simp only; omega, by simp only; omega, by unfold maxLen at hs; simpa using hs⟩, rfl⟩
theorem fits_book (l : List AV) (h : Fits bookSh l) : ∃ b : Book, b.wf ∧ l = b.enc := by
  simp only [bookSh, Fits, FitsL] at h
  obtain ⟨_, _, rfl, ⟨c, rfl, hc⟩, _, _, rfl, ⟨es, rfl, hl, hes⟩, _, _, rfl, ⟨es', rfl, hl', hes'⟩, rfl⟩ := h
  have := bounds_i64 hc
  obtain ⟨al, h1, rfl⟩ := fits_list fits_alph hes
  obtain ⟨ss, h2, rfl⟩ := fits_list fits_spell hes'
  exact ⟨⟨c, al, ss⟩, ⟨by simp only; omega, by simp only; omega, h1, h2⟩, rfl⟩
theorem fits_men (l : List AV) (h : Fits menSh l) : ∃ a : Men, a.wf ∧ l = a.enc := by
  simp only [menSh, Fits, FitsL] at h
  obtain ⟨_, _, rfl, ⟨a, rfl, ha⟩, _, _, rfl, ⟨b, rfl, hb⟩, _, _, rfl, ⟨_, _, rfl, ⟨c, rfl, hc⟩, _, _, rfl, ⟨d, rfl, hd⟩, rfl⟩, _, _, rfl, ⟨e, rfl, he⟩, rfl⟩ := h
  have := bounds_i64 ha
  have := bounds_i64 hb
  have := bounds_i64 hc
  have := bounds_i64 hd
  have := bounds_i64 he
  exact ⟨⟨a, b, c, d, e⟩, ⟨by simp only; omega, by simp only; omega, by simp only; omega, by simp only; omega, by simp only; omega, by simp only; omega, by simp only; omega, by simp only; omega, by simp only; omega, by simp only; omega⟩, rfl⟩
theorem fits_tie (l : List AV) (h : Fits tieSh l) : ∃ a : Tie, True ∧ l = a.enc := by
  simp only [tieSh, Fits, FitsL] at h
  obtain ⟨_, _, rfl, ⟨a, rfl, ha⟩, _, _, rfl, ⟨b, rfl, hb⟩, _, _, rfl, ⟨q, rfl⟩, rfl⟩ := h
  exact ⟨⟨a, b, q⟩, trivial, rfl⟩
theorem fits_town (a : AV) (h : FitA townSh a) : ∃ t : Town, t.wf ∧ a = .agg t.enc := by
  simp only [townSh, FitA, FitsL] at h
  obtain ⟨l, rfl, l1, _, rfl, h1, l2, _, rfl, h2, l3, _, rfl, h3, l4, _, rfl, h4, rfl⟩ := h
  obtain ⟨b, hb, rfl⟩ := fits_book _ h1
  simp only [Fits] at h2
  obtain ⟨v, rfl, hv⟩ := h2
  have := bounds_i64 hv
  simp only [Fits.eq_4] at h3 h4
  obtain ⟨es, rfl, _, hes⟩ := h3
  obtain ⟨ms, hm, rfl⟩ := fits_list fits_men hes
  obtain ⟨es2, rfl, _, hes2⟩ := h4
  obtain ⟨ts, _, rfl⟩ := fits_list fits_tie hes2
  exact ⟨⟨b, v, ms, ts⟩, ⟨hb, by simp only; omega, by simp only; omega, hm⟩, rfl⟩
end Go.Px

namespace Go.Px
open Go.Proofs Go.Proofs.YtcioapljmakidaaGreat
open Go.ChangeShapes Go.WideShapes Go.ChangeAt Go.RowKit
theorem own : ownKnob Tryz.prog.godebug = none := by kernel_rfl
theorem laid : laidOutB Tryz.prog = true := by kernel_rfl
end Go.Px

