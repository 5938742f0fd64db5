/- Part 5 of the proofs of the statements of this seat (a logic of pure contracts, the functions lowered, their contracts). No conditions. -/
import Derived.Test.YtbplgdbdpdhipaaA4
namespace Go.Px
open Go.Proofs
theorem writeByte_ev (b : Nat) (c0 : AV) (o : Option (Nat × Nat)) (l : List UInt8) (c : UInt8) (h : c0 = .v (.pointer none) ∨ c0 = .po b 0) (hok : BldOK o l) (hl : l.length ≤ 1000000000) :
    EvR Try.prog 113 [.po b 0, U c.toNat] (bldH b c0 o l) (fun r Ho => ∃ o', r = .v .nilIface ∧ BldOK o' (l ++ [c]) ∧ Ho = bldH b (.po b 0) o' (l ++ [c])) := by
  refine EvR.intro fn113 ?_
  refine LWp.sx (gs := []) (hs := []) rfl trivial ?_
  cases o with
  | none =>
    simp only [BldOK] at hok
    subst hok
    refine LWp.seq (LWp.ops ?_)
    refine WOps.xn (gs := []) (hs := []) 1 rfl rfl trivial ?_
    refine WOps.cons (Op1.callR (Hin := [(b, .cells 160 [c0, .nil])]) (H0 := []) (copyCheck_ev b c0 .nil h) rfl rfl (SubL.refl _) rfl ?_)
    rintro res Hout rfl
    refine WOps.xd (gs := []) (hs := []) rfl trivial ?_
    refine LWp.seq (LWp.ops ?_)
    refine WOps.xn (gs := []) (hs := [.at 0, .ice]) 8 rfl rfl ⟨rfl, rfl, ⟨by show 1 * 1 ≤ _; decide, by show 1 ≤ _; decide⟩, trivial⟩ ?_
    refine WOps.share (t := 14) rfl (fun e => by cases e) (fun g cap => ?_)
    refine WOps.ent (Ent.perm (List.Perm.swap _ _ _)) ?_
    refine WOps.xn (gs := []) (hs := []) 2 rfl rfl trivial ?_
    refine WOps.cons (Op1.storeO (i := 0) rfl rfl rfl rfl rfl rfl (by show 2 ≤ 2; decide) ?_)
    refine WOps.xd (gs := []) (hs := []) rfl trivial ?_
    refine LWp.sx (gs := []) (hs := []) rfl trivial ?_
    exact LWp.ret ⟨.inr rfl, _, _, bldH b (.po b 0) (some (g, cap)) ([] ++ [c]), rfl, .one (.tmp rfl rfl), ⟨some (g, cap), rfl, by simp [BldOK], rfl⟩, List.Sublist.refl _⟩
  | some gc =>
    obtain ⟨g, cap⟩ := gc
    simp only [BldOK] at hok
    refine LWp.seq (LWp.ops ?_)
    refine WOps.xn (gs := []) (hs := []) 1 rfl rfl trivial ?_
    refine WOps.cons (Op1.callR (Hin := [(b, .cells 160 [c0, .so g l.length cap])]) (H0 := [(g, .arr 5 1 cap (l.map fun c => [U c.toNat]))]) (copyCheck_ev b c0 _ h) rfl rfl (SubL.refl _) rfl ?_)
    rintro res Hout rfl
    refine WOps.xd (gs := []) (hs := []) rfl trivial ?_
    refine LWp.seq (LWp.ops ?_)
    refine WOps.xn (gs := []) (hs := [.at 0]) 5 rfl rfl ⟨rfl, trivial⟩ ?_
    refine WOps.ent (Ent.unshare (i := 1) (t := 11) (es := l.map fun c => [U c.toNat]) (by simp; rfl) rfl) ?_
    have hln : (l.map fun c => [U c.toNat]).length = l.length := List.length_map _
    refine WOps.xn (gs := []) (hs := [.ice]) 3 rfl rfl ⟨rfl, ⟨by show ((l.map fun c => [U c.toNat]).length + 1) * 1 ≤ _; omega, by show (l.map fun c => [U c.toNat]).length + 1 ≤ _; omega⟩, trivial⟩ ?_
    refine WOps.share (t := 14) (es := (l ++ [c]).map fun c => [U c.toNat]) (by rw [List.map_append]; rfl) (fun e => by simp at e) (fun g' cap' => ?_)
    refine WOps.ent (Ent.perm (List.Perm.swap _ _ _)) ?_
    refine WOps.xn (gs := []) (hs := []) 2 rfl rfl trivial ?_
    refine WOps.cons (Op1.storeO (i := 0) rfl rfl rfl rfl rfl rfl (by show 2 ≤ 2; decide) ?_)
    refine WOps.xd (gs := []) (hs := []) rfl trivial ?_
    refine LWp.sx (gs := []) (hs := []) rfl trivial ?_
    refine LWp.ret ⟨.inr rfl, _, _, bldH b (.po b 0) (some (g', cap')) (l ++ [c]), rfl, .one (.tmp rfl rfl), ⟨some (g', cap'), rfl, by simp [BldOK], rfl⟩, ?_⟩
    have e : (l ++ [c]).length = ((l ++ [c]).map fun c => [U c.toNat]).length := (List.length_map _).symm
    simp only [bldH]
    rw [e]
    exact List.Sublist.refl _
/-- 'WriteString', of a string that is not empty. -/
theorem writeString_ev (b : Nat) (c0 : AV) (o : Option (Nat × Nat)) (l s : List UInt8) (h : c0 = .v (.pointer none) ∨ c0 = .po b 0) (hok : BldOK o l) (hs : s ≠ []) (hl : l.length + s.length ≤ 1000000000) :
    EvR Try.prog 114 [.po b 0, Str s] (bldH b c0 o l) (fun _ Ho => ∃ o', BldOK o' (l ++ s) ∧ Ho = bldH b (.po b 0) o' (l ++ s)) := by
  refine EvR.intro fn114 ?_
  refine LWp.sx (gs := []) (hs := []) rfl trivial ?_
  have hss : (ByteArray.mk s.toArray).size = s.length := rfl
  cases o with
  | none =>
    simp only [BldOK] at hok
    subst hok
    refine LWp.seq (LWp.ops ?_)
    refine WOps.xn (gs := []) (hs := []) 1 rfl rfl trivial ?_
    refine WOps.cons (Op1.callR (Hin := [(b, .cells 160 [c0, .nil])]) (H0 := []) (copyCheck_ev b c0 .nil h) rfl rfl (SubL.refl _) rfl ?_)
    rintro res Hout rfl
    refine WOps.xd (gs := []) (hs := []) rfl trivial ?_
    refine LWp.seq (LWp.ops ?_)
    refine WOps.xn (gs := []) (hs := [.at 0]) 6 rfl rfl ⟨rfl, trivial⟩ ?_
    refine WOps.ent (Ent.nilLin (t := 12) 5 1 rfl) ?_
    refine WOps.cons (Op1.appendS (es := []) (s := ⟨s.toArray⟩) rfl rfl (by rw [hss, List.length_nil]; simp at hl; omega) (by rw [hss, List.length_nil]; simp at hl; omega) ?_)
    refine WOps.share (t := 14) (es := s.map fun c => [U c.toNat]) rfl (fun e => absurd (by simpa using e) hs) (fun g cap => ?_)
    refine WOps.ent (Ent.perm (List.Perm.swap _ _ _)) ?_
    refine WOps.xn (gs := []) (hs := []) 2 rfl rfl trivial ?_
    refine WOps.cons (Op1.storeO (i := 0) rfl rfl rfl rfl rfl rfl (by show 2 ≤ 2; decide) ?_)
    refine WOps.xd (gs := []) (hs := []) rfl trivial ?_
    refine LWp.sx (gs := []) (hs := []) rfl trivial ?_
    refine LWp.ret ⟨.inr rfl, _, .tup [I s.length, .v .nilIface], bldH b (.po b 0) (some (g, cap)) ([] ++ s), rfl, .many (by decide) ⟨.tmp rfl rfl, .tmp rfl rfl, trivial⟩, ⟨some (g, cap), hs, rfl⟩, ?_⟩
    have e : s.length = (s.map fun c => [U c.toNat]).length := (List.length_map _).symm
    simp only [bldH, List.nil_append]
    rw [e]
    exact List.Sublist.refl _
  | some gc =>
    obtain ⟨g, cap⟩ := gc
    simp only [BldOK] at hok
    refine LWp.seq (LWp.ops ?_)
    refine WOps.xn (gs := []) (hs := []) 1 rfl rfl trivial ?_
    refine WOps.cons (Op1.callR (Hin := [(b, .cells 160 [c0, .so g l.length cap])]) (H0 := [(g, .arr 5 1 cap (l.map fun c => [U c.toNat]))]) (copyCheck_ev b c0 _ h) rfl rfl (SubL.refl _) rfl ?_)
    rintro res Hout rfl
    refine WOps.xd (gs := []) (hs := []) rfl trivial ?_
    refine LWp.seq (LWp.ops ?_)
    refine WOps.xn (gs := []) (hs := [.at 0]) 6 rfl rfl ⟨rfl, trivial⟩ ?_
    refine WOps.ent (Ent.unshare (i := 1) (t := 12) (es := l.map fun c => [U c.toNat]) (by simp; rfl) rfl) ?_
    have hln : (l.map fun c => [U c.toNat]).length = l.length := List.length_map _
    refine WOps.cons (Op1.appendS (es := l.map fun c => [U c.toNat]) (s := ⟨s.toArray⟩) rfl rfl (by rw [hss, hln]; omega) (by rw [hss, hln]; omega) ?_)
    refine WOps.share (t := 14) (es := (l ++ s).map fun c => [U c.toNat]) (by rw [List.map_append]; rfl) (fun e => by simp at e; exact absurd e.1 hok) (fun g' cap' => ?_)
    refine WOps.ent (Ent.perm (List.Perm.swap _ _ _)) ?_
    refine WOps.xn (gs := []) (hs := []) 2 rfl rfl trivial ?_
    refine WOps.cons (Op1.storeO (i := 0) rfl rfl rfl rfl rfl rfl (by show 2 ≤ 2; decide) ?_)
    refine WOps.xd (gs := []) (hs := []) rfl trivial ?_
    refine LWp.sx (gs := []) (hs := []) rfl trivial ?_
    refine LWp.ret ⟨.inr rfl, _, .tup [I s.length, .v .nilIface], bldH b (.po b 0) (some (g', cap')) (l ++ s), rfl, .many (by decide) ⟨.tmp rfl rfl, .tmp rfl rfl, trivial⟩, ⟨some (g', cap'), by simp [BldOK, hok], rfl⟩, ?_⟩
    have e : (l ++ s).length = ((l ++ s).map fun c => [U c.toNat]).length := (List.length_map _).symm
    simp only [bldH]
    rw [e]
    exact List.Sublist.refl _
theorem bld_pt : Try.prog.underlying 180 = some (.pointer 5) := by kernel_rfl
theorem bld_c : Try.prog.cellsOf 5 = 1 := by kernel_rfl
/-- 'String': the builder is looked at no more. -/
theorem bstring_ev (b : Nat) (c0 : AV) (o : Option (Nat × Nat)) (l : List UInt8) (hok : BldOK o l) (hl : l.length ≤ 1000000000) :
    EvR Try.prog 115 [.po b 0] (bldH b c0 o l) (fun r Ho => r = Str l ∧ Ho = []) := by
  refine EvR.intro fn115 ?_
  refine LWp.sx (gs := []) (hs := []) rfl trivial ?_
  have hss : (ByteArray.mk l.toArray).size = l.length := rfl
  cases o with
  | none =>
    simp only [BldOK] at hok
    subst hok
    refine LWp.seq (LWp.d (gs := []) (hs := [.at 0, .op (.v (.pointer none)), .at 0]) hmix rfl (by kernel_rfl) ⟨rfl, fun _ _ _ => Op1.sdataN rfl ⟨rfl, rfl, rfl⟩, rfl, trivial⟩ ?_)
    refine WOps.cons (Op1.ustrN rfl rfl ?_)
    refine WOps.xd (gs := []) (hs := []) rfl trivial ?_
    refine LWp.ret ⟨.inr rfl, _, _, [], rfl, .one (.tmp rfl rfl), ⟨rfl, rfl⟩, List.nil_sublist _⟩
  | some gc =>
    obtain ⟨g, cap⟩ := gc
    simp only [BldOK] at hok
    have hln : (l.map fun c => [U c.toNat]).length = l.length := List.length_map _
    refine LWp.arrCap 1 rfl fun hcap0 => ?_
    have hcap : cap ≠ 0 := by
      rw [hln] at hcap0
      have := List.length_pos_iff.2 hok
      omega
    refine LWp.seq (LWp.d (gs := []) (hs := [.at 0, .op (.po g 0), .at 0]) hmix rfl (by kernel_rfl) ⟨rfl, fun _ _ _ => Op1.sdataO rfl hcap ⟨rfl, rfl, rfl⟩, rfl, trivial⟩ ?_)
    refine WOps.cons (Op1.ustrO (i := 1) (E := 5) (s := ⟨l.toArray⟩) rfl rfl rfl bld_pt bld_c ?_ ?_ ?_)
    · rw [hss]; intro e; exact hok (List.eq_nil_of_length_eq_zero e)
    · rw [hss]; omega
    refine WOps.xd (gs := []) (hs := []) rfl trivial ?_
    refine LWp.ret ⟨.inr rfl, _, _, [], rfl, .one (.tmp rfl rfl), ⟨rfl, rfl⟩, List.nil_sublist _⟩
end Go.Px

namespace Go.Px
open Go.Proofs
/-- What is left of a text, where so many words are written. -/
def restF (w : Nat) (l : List Wd) (k n : Nat) : List UInt8 := if k = 0 then textF w l else textG w n (l.drop k)
theorem text_ev (w : Nat) (l : List Wd) (hw : w ≤ 30) (hl : letterE l = 0) : Ev Try.prog 75 [I w, strs l] (Str (textF w l)) := by
  obtain ⟨h15, hws⟩ := letter_zero.1 hl
  have htl := text_len w hl
  have hlen : (l.map fun s => [Str s]).length = l.length := List.length_map _
  refine Ev.intro fn75 ?_
  refine LWp.sx (gs := []) (hs := []) rfl trivial ?_
  refine LWp.seq (LWp.ops (WOps.cons (Op1.alloc rfl (fun b => ?_))))
  refine WOps.ent (Ent.cellsSub (j := 0) [.v (.pointer none), .nil] rfl ⟨SubA.refl _, (fun S v h => by simp only [Rep] at h ⊢; exact h), trivial⟩) ?_
  refine WOps.xd (gs := []) (hs := []) rfl trivial ?_
  refine LWp.sx (gs := []) (hs := []) rfl trivial ?_
  refine LWp.seq (LWp.seq ?_)
  refine LWp.x (gs := []) (hs := []) rfl trivial ?_
  refine LWp.blockT (Y := List UInt8 × Option (Nat × Nat) × Nat) (fun y => y.1 ++ restF w l l.length y.2.2 = textF w l ∧ BldOK y.2.1 y.1) (fun _ => el [(1, strs l), (5, .po b 0)]) (fun y => bldH b (if l.length = 0 then .v (.pointer none) else .po b 0) y.2.1 y.1) (fun _ => []) ?_ ?_
  · refine LWp.loopN (X := Nat × List UInt8 × Option (Nat × Nat) × Nat) (fun x => x.1 ≤ l.length ∧ x.2.1 ++ restF w l x.1 x.2.2.2 = textF w l ∧ BldOK x.2.2.1 x.2.1 ∧ x.2.2.2 ≤ 100)
      (fun x => el [(0, I w), (1, strs l), (5, .po b 0), (6, I (if x.1 = 0 then 0 else (w : Int) - x.2.2.2)), (9, strs l), (10, I l.length), (11, I x.1)]) (fun x => bldH b (if x.1 = 0 then .v (.pointer none) else .po b 0) x.2.2.1 x.2.1) (fun _ => []) (fun x => l.length - x.1) (0, [], none, 0) ⟨by simp, rfl, rfl, by simp⟩
      (Ent.el ⟨rfl, rfl, rfl, rfl, rfl, by show I _ = I _; rw [hlen], rfl, trivial⟩) ?_
    rintro ⟨k, acc, o, n⟩ ⟨hk, hacc, hok, hn⟩
    simp only at hk hacc hok hn ⊢
    refine LWp.sx (gs := []) (hs := []) rfl trivial ?_
    refine LWp.seq (LWp.ite rfl (fun hc => ?_) (fun hc => ?_))
    · simp only [decide_eq_true_eq, Int.ofNat_lt] at hc
      obtain ⟨s, hs⟩ := ex_get hc
      have hsw := List.all_eq_true.1 hws s (List.mem_of_getElem? hs)
      have hsne := word_ne hsw
      have hss : (ByteArray.mk s.toArray).size = s.length := rfl
      have hs8 : s.length ≤ 8 := by
        simp only [wordB, Bool.and_eq_true, decide_eq_true_eq] at hsw
        exact hsw.1.2
      have hcut : acc.length ≤ 160 := by
        have := congrArg List.length hacc
        rw [List.length_append] at this; omega
      refine LWp.skip ?_
      refine LWp.blockX (Y := List UInt8 × Option (Nat × Nat) × Nat) (fun y => y.1 ++ restF w l (k + 1) y.2.2 = textF w l ∧ BldOK y.2.1 y.1 ∧ y.2.2 ≤ 100) (fun y => el [(0, I w), (1, strs l), (5, .po b 0), (6, I ((w : Int) - y.2.2)), (9, strs l), (10, I l.length), (11, I k)])
        (fun y => bldH b (.po b 0) y.2.1 y.1) (fun _ => []) ?_ ?_
      · refine LWp.sx (gs := []) (hs := [.cells [Str s]]) rfl ⟨⟨by omega, by simp [hs]⟩, trivial⟩ ?_
        refine LWp.blockX (Y := List UInt8 × Option (Nat × Nat) × Nat) (fun y => y.1 ++ (s ++ restF w l (k + 1) y.2.2) = textF w l ∧ BldOK y.2.1 y.1 ∧ y.2.2 ≤ 100 ∧ y.1.length ≤ 161) (fun y => el [(0, I w), (1, strs l), (5, .po b 0), (6, I ((w : Int) - y.2.2)), (8, Str s), (9, strs l), (10, I l.length), (11, I k)])
          (fun y => bldH b (if k = 0 then .v (.pointer none) else .po b 0) y.2.1 y.1) (fun _ => []) ?_ ?_
        · by_cases hk0 : k = 0
          · subst hk0
            have hr : restF w l 0 n = s ++ restF w l 1 s.length := by
              cases l with
              | nil => cases hs
              | cons a l => simp only [List.getElem?_cons_zero, Option.some.injEq] at hs; subst hs; rfl
            rw [hr] at hacc
            refine LWp.sx (gs := [(23, false)]) (hs := []) rfl (by (repeat' (with_reducible apply And.intro)); (all_goals try first | (with_reducible exact trivial) | (with_reducible rfl) | (with_reducible assumption) | ((with_reducible apply isB); first | exact rfl | exact beq_self_eq_true _))) ?_
            refine LWp.ite (b := false) rfl (fun h => by cases h) (fun _ => ?_)
            refine LWp.sx (gs := []) (hs := []) rfl trivial ?_
            refine LWp.ite (b := false) rfl (fun h => by cases h) (fun _ => ?_)
            refine LWp.x (gs := []) (hs := []) rfl ⟨by omega, trivial⟩ ?_
            exact ⟨(acc, o, s.length), ⟨hacc, hok, by simp only; omega, by simp only; omega⟩, Ent.trans (Ent.ofH (by simp)) (Ent.el ⟨rfl, rfl, rfl, rfl, rfl, rfl, rfl, rfl, trivial⟩)⟩
          · have hr : restF w l k n = textG w n (s :: l.drop (k + 1)) := by
              unfold restF
              rw [if_neg hk0, drop_cons hs]
            have hr1 : ∀ m, restF w l (k + 1) m = textG w m (l.drop (k + 1)) := fun m => rfl
            have hg : decide ((k : Int) > 0) = true := decide_eq_true (by omega)
            rw [hr] at hacc
            refine LWp.ent (Ent.el (l := [(0, I w), (1, strs l), (5, .po b 0), (6, I ((w : Int) - n)), (7, I k), (8, Str s), (9, strs l), (10, I l.length), (11, I k)]) ⟨rfl, rfl, rfl, by show I _ = I _; rw [if_neg hk0], rfl, rfl, rfl, rfl, rfl, trivial⟩) ?_
            by_cases hf : n + 1 + s.length ≤ w
            · have hd : decide ((s.length : Int) < (w : Int) - n) = true := decide_eq_true (by omega)
              simp only [textG, if_pos hf] at hacc
              refine LWp.sx (gs := [(23, true)]) (hs := []) rfl (by (repeat' (with_reducible apply And.intro)); (all_goals try first | (with_reducible exact trivial) | (with_reducible rfl) | (with_reducible assumption) | ((with_reducible apply isB); first | exact rfl | exact beq_self_eq_true _))) ?_
              refine LWp.ite (b := true) (by show B _ = B _; exact congrArg B hd) (fun _ => ?_) (fun h => by cases h)
              refine LWp.seq (LWp.ops ?_)
              refine WOps.cons (Op1.callR (Hin := bldH b (if k = 0 then .v (.pointer none) else .po b 0) o acc) (H0 := []) (writeByte_ev b _ o acc 32 (by split <;> simp) hok (by omega)) rfl rfl (SubL.refl _) (by simp) ?_)
              rintro res Hout ⟨o2, rfl, h5, rfl⟩
              refine WOps.xd (gs := []) (hs := []) rfl trivial ?_
              refine LWp.x (gs := []) (hs := []) rfl ⟨by omega, by omega, trivial⟩ ?_
              refine ⟨(acc ++ [32], o2, n + 1 + s.length), ⟨by simp only [hr1]; simpa using hacc, h5, by simp only; omega, by simp; omega⟩, Ent.trans (Ent.ofH (by simp [hk0])) (Ent.el ⟨rfl, rfl, rfl, ?_, rfl, rfl, rfl, rfl, trivial⟩)⟩
              show I _ = I _
              rw [hss]
              refine congrArg (fun z : Int => I z) ?_
              simp only [Int.natCast_add, Int.natCast_one]
              omega
            · have hd : decide ((s.length : Int) < (w : Int) - n) = false := decide_eq_false (by omega)
              have hd2 : decide ((k : Int) > 0) = true := hg
              simp only [textG, if_neg hf] at hacc
              refine LWp.sx (gs := [(23, true)]) (hs := []) rfl (by (repeat' (with_reducible apply And.intro)); (all_goals try first | (with_reducible exact trivial) | (with_reducible rfl) | (with_reducible assumption) | ((with_reducible apply isB); first | exact rfl | exact beq_self_eq_true _))) ?_
              refine LWp.ite (b := false) (by show B _ = B _; exact congrArg B hd) (fun h => by cases h) (fun _ => ?_)
              refine LWp.sx (gs := []) (hs := []) rfl trivial ?_
              refine LWp.ite (b := true) (by show B _ = B _; exact congrArg B hd2) (fun _ => ?_) (fun h => by cases h)
              refine LWp.seq (LWp.ops ?_)
              refine WOps.cons (Op1.callR (Hin := bldH b (if k = 0 then .v (.pointer none) else .po b 0) o acc) (H0 := []) (writeByte_ev b _ o acc 10 (by split <;> simp) hok (by omega)) rfl rfl (SubL.refl _) (by simp) ?_)
              rintro res Hout ⟨o2, rfl, h5, rfl⟩
              refine WOps.xd (gs := []) (hs := []) rfl trivial ?_
              refine LWp.x (gs := []) (hs := []) rfl ⟨by omega, trivial⟩ ?_
              exact ⟨(acc ++ [10], o2, s.length), ⟨by simp only [hr1]; simpa using hacc, h5, by simp only; omega, by simp; omega⟩, Ent.trans (Ent.ofH (by simp [hk0])) (Ent.el ⟨rfl, rfl, rfl, rfl, rfl, rfl, rfl, rfl, trivial⟩)⟩
        · rintro ⟨acc', o', n'⟩ ⟨h1, h2, h3, h4⟩
          simp only at h1 h2 h3 h4 ⊢
          refine LWp.ops ?_
          refine WOps.xn (gs := []) (hs := []) 1 rfl rfl trivial ?_
          refine WOps.cons (Op1.callR (Hin := bldH b (if k = 0 then .v (.pointer none) else .po b 0) o' acc') (H0 := []) (writeString_ev b _ o' acc' s (by split <;> simp) h2 hsne (by omega)) rfl rfl (SubL.refl _) (by simp) ?_)
          rintro res Hout ⟨o2, h5, rfl⟩
          refine WOps.xd (gs := []) (hs := []) rfl trivial ?_
          exact ⟨(acc' ++ s, o2, n'), ⟨by simpa using h1, h5, h3⟩, Ent.trans (Ent.ofH (by simp)) (Ent.el ⟨rfl, rfl, rfl, rfl, rfl, rfl, rfl, trivial⟩)⟩
      · rintro ⟨acc', o', n'⟩ ⟨h1, h2, h3⟩
        simp only at h1 h2 h3 ⊢
        refine LWp.x (gs := []) (hs := []) rfl ⟨by omega, trivial⟩ ?_
        exact ⟨(k + 1, acc', o', n'), ⟨by omega, h1, h2, h3⟩, by simp only; omega, Ent.trans (Ent.ofH (by simp)) (Ent.el ⟨rfl, rfl, rfl, by show I _ = I _; simp, rfl, rfl, rfl, trivial⟩)⟩
    · simp only [decide_eq_false_iff_not, Int.ofNat_lt] at hc
      have hkl : k = l.length := by omega
      subst hkl
      exact LWp.exit ⟨(acc, o, n), ⟨hacc, hok⟩, Ent.el ⟨rfl, rfl, trivial⟩⟩
  · rintro ⟨acc, o, n⟩ ⟨hacc, hok⟩
    simp only at hacc hok ⊢
    have hcut : acc.length ≤ 160 := by
      have := congrArg List.length hacc
      rw [List.length_append] at this; omega
    refine LWp.seq (LWp.seq ?_)
    refine LWp.x (gs := []) (hs := []) rfl trivial ?_
    refine LWp.cutT (Y := AV × Option (Nat × Nat)) (fun y => BldOK y.2 (textF w l)) (fun _ => el [(5, .po b 0)]) (fun y => bldH b y.1 y.2 (textF w l)) (fun _ => []) ?_ ?_
    · refine LWp.ite rfl (fun hc => ?_) (fun hc => ?_)
      · have hc : 0 < l.length := by simp at hc; omega
        have hne : ¬ l.length = 0 := by omega
        have hr : restF w l l.length n = [10] := by
          unfold restF
          rw [if_neg hne, List.drop_length]; rfl
        rw [hr] at hacc
        refine LWp.ops ?_
        refine WOps.cons (Op1.callR (Hin := bldH b (if l.length = 0 then .v (.pointer none) else .po b 0) o acc) (H0 := []) (writeByte_ev b _ o acc 10 (by split <;> simp) hok (by omega)) rfl rfl (SubL.refl _) (by simp) ?_)
        rintro res Hout ⟨o2, rfl, h5, rfl⟩
        refine WOps.xd (gs := []) (hs := []) rfl trivial ?_
        rw [hacc] at h5
        exact ⟨(.po b 0, o2), h5, Ent.trans (Ent.ofH (by rw [hacc]; simp)) (Ent.el ⟨rfl, trivial⟩)⟩
      · have hc : ¬ 0 < l.length := by simp at hc; simpa using hc
        have hl0 : l = [] := List.eq_nil_of_length_eq_zero (by omega)
        subst hl0
        have hr : restF w [] 0 n = [] := rfl
        simp only [List.length_nil] at hacc
        rw [hr, List.append_nil] at hacc
        refine LWp.skip ⟨(_, o), ?_, Ent.trans (Ent.ofH (by rw [hacc])) (Ent.el ⟨rfl, trivial⟩)⟩
        rw [← hacc]; exact hok
    · rintro ⟨c0, o⟩ h
      simp only at h ⊢
      refine LWp.seq (LWp.ops ?_)
      refine WOps.cons (Op1.callR (Hin := bldH b c0 o (textF w l)) (H0 := []) (bstring_ev b c0 o (textF w l) h (by omega)) rfl rfl (SubL.refl _) (by simp) ?_)
      rintro res Hout ⟨rfl, rfl⟩
      refine WOps.xd (gs := []) (hs := []) rfl trivial ?_
      refine LWp.ret (retT (.inr rfl) (.one (.tmp ?_ rfl)))
      rfl
end Go.Px

namespace Go.Px
open Go.Proofs
abbrev roomsE (l : List (Int × Int)) : List (List AV) := l.map fun r => [I r.1, I r.2]
/-- A form that is looked at: behind a pointer. -/
abbrev lookV (f : Form) : AV := .pi [Str f.name, partsV f.parts, roomsV (roomsL f.parts)]
theorem take_snoc {α : Type} {l : List α} {k : Nat} {x : α} (h : l[k]? = some x) : l.take (k + 1) = l.take k ++ [x] := by rw [List.take_add_one, h]; rfl
/-- Where the rooms lie as they are found. -/
abbrev lookE (l : List (Int × Int)) : Option (Option Addr × Nat) → List (Nat × AV)
  | none => []
  | some (ad, cap) => [(28, .linV 82 2 (roomsE l) ad cap)]
abbrev lookC (f : Form) (l : List (Int × Int)) : Option (Option Addr × Nat) → List AV
  | none => [Str f.name, partsV f.parts, .nil]
  | some (ad, cap) => [Str f.name, partsV f.parts, .v (.slice ad l.length cap)]
theorem look_ev (f : Form) (h5 : f.parts.length ≤ 5) : Ev Try.prog 71 [.agg f.enc] (lookV f) := by
  have hln : (f.parts.map Part.enc).length = f.parts.length := List.length_map _
  refine Ev.intro fn71 ?_
  refine LWp.sx (gs := []) (hs := [.ice]) rfl ⟨⟨rfl, rfl⟩, trivial⟩ ?_
  refine LWp.seq (LWp.ops ?_)
  refine WOps.xn (gs := []) (hs := [.lin]) 3 rfl rfl ⟨⟨rfl, rfl⟩, trivial⟩ ?_
  refine WOps.shareB (t := 8) rfl (fun b => ?_)
  refine WOps.xd (gs := []) (hs := []) rfl trivial ?_
  refine LWp.ent (Ent.trans (Ent.cellsSub (j := 0) [Str f.name, partsV f.parts, .nil] rfl ⟨SubA.refl _, SubA.refl _, (fun S v h => by simp only [Rep] at h ⊢; exact h), trivial⟩) (Ent.el (l := [(1, .pi f.enc), (3, .po b 0)]) ⟨rfl, rfl, trivial⟩)) ?_
  refine LWp.seq (LWp.seq ?_)
  refine LWp.x (gs := []) (hs := []) rfl trivial ?_
  refine LWp.blockT (Y := Option (Option Addr × Nat)) (fun y => y = none → roomsL f.parts = []) (fun y => el ((3, .po b 0) :: lookE (roomsL f.parts) y)) (fun y => [(b, .cells 99 (lookC f (roomsL f.parts) y))]) (fun _ => []) ?_ ?_
  · refine LWp.loopN (X := Nat × Option (Option Addr × Nat)) (fun x => x.1 ≤ f.parts.length ∧ (x.2 = none → roomsL (f.parts.take x.1) = [])) (fun x => el ((3, .po b 0) :: (10, partsV f.parts) :: (11, I f.parts.length) :: (12, I x.1) :: lookE (roomsL (f.parts.take x.1)) x.2))
      (fun x => [(b, .cells 99 (lookC f (roomsL (f.parts.take x.1)) x.2))]) (fun _ => []) (fun x => f.parts.length - x.1) (0, none) ⟨by simp, fun _ => rfl⟩ (Ent.el ⟨rfl, rfl, by show I _ = I _; rw [hln], rfl, trivial⟩) ?_
    rintro ⟨k, y⟩ ⟨hk, hy⟩
    simp only at hk hy ⊢
    have hrl : (roomsL (f.parts.take k)).length ≤ 5 := Nat.le_trans (rooms_len _) (by simp; omega)
    have hrl2 : (roomsE (roomsL (f.parts.take k))).length = (roomsL (f.parts.take k)).length := List.length_map _
    refine LWp.sx (gs := []) (hs := []) rfl trivial ?_
    refine LWp.seq (LWp.ite rfl (fun hc => ?_) (fun hc => ?_))
    · simp only [decide_eq_true_eq, Int.ofNat_lt] at hc
      obtain ⟨p, hp⟩ := ex_get hc
      have htk : f.parts.take (k + 1) = f.parts.take k ++ [p] := take_snoc hp
      have hR := roomsL_snoc (f.parts.take k) p
      rw [← htk] at hR
      refine LWp.skip ?_
      refine LWp.blockX (Y := Option (Option Addr × Nat)) (fun y => y = none → roomsL (f.parts.take (k + 1)) = []) (fun y => el ((3, .po b 0) :: (10, partsV f.parts) :: (11, I f.parts.length) :: (12, I k) :: lookE (roomsL (f.parts.take (k + 1))) y))
        (fun y => [(b, .cells 99 (lookC f (roomsL (f.parts.take (k + 1))) y))]) (fun _ => []) ?_ ?_
      · refine LWp.sx (gs := []) (hs := [.cells p.enc, .lin]) rfl ⟨⟨by omega, by simp [hp]⟩, rfl, ⟨rfl, rfl, rfl, by decide⟩, trivial⟩ ?_
        refine LWp.ent (Ent.freezeLbox (t := 5) rfl) ?_
        refine LWp.sx (gs := []) (hs := []) rfl trivial ?_
        refine LWp.ite rfl (fun hw => ?_) (fun hw => ?_)
        · have hr : p.roomy = true := by simp at hw; simp [Part.roomy, hw]
          rw [if_pos hr] at hR
          cases y with
          | none =>
            have hy := hy rfl
            rw [hy] at hR ⊢
            refine LWp.d (gs := []) (hs := [.at 0, .ice]) hmix rfl (by kernel_rfl) ⟨rfl, rfl, ⟨by show 1 * 16 ≤ _; decide, by show 1 ≤ _; decide⟩, trivial⟩ ?_
            refine WOps.share (t := 28) rfl (fun e => by cases e) (fun g cap => ?_)
            refine WOps.cons (Op1.storeO (i := 1) rfl rfl rfl rfl rfl rfl (by show 3 ≤ 3; decide) ?_)
            refine WOps.ent (Ent.soV (i := 0) (t := 28) rfl rfl rfl) ?_
            refine WOps.ent (Ent.cellsSub (j := 0) (lookC f [(p.lo, p.hi)] (some (some ⟨g, 0, none⟩, cap))) rfl ⟨SubA.refl _, SubA.refl _, (fun S v h => by simp only [Rep] at h ⊢; exact h), trivial⟩) ?_
            refine WOps.nil ⟨some (some ⟨g, 0, none⟩, cap), (fun e => by cases e), ?_⟩
            rw [hR]
            exact Ent.el ⟨rfl, rfl, rfl, rfl, rfl, trivial⟩
          | some z =>
            obtain ⟨ad, cap⟩ := z
            refine LWp.d (gs := []) (hs := [.at 0, .ice, .own 28]) hmix rfl (by kernel_rfl) ⟨rfl, rfl, ⟨⟨rfl, rfl, by rw [hrl2]⟩, by rw [hrl2]; show ((roomsL (f.parts.take k)).length + 1) * 16 ≤ _; omega, by rw [hrl2]; show (roomsL (f.parts.take k)).length + 1 ≤ _; omega⟩, trivial⟩ ?_
            have hE : roomsE (roomsL (f.parts.take k) ++ [(p.lo, p.hi)]) = roomsE (roomsL (f.parts.take k)) ++ [[I p.lo, I p.hi]] := List.map_append
            refine WOps.share (t := 28) (es := roomsE (roomsL (f.parts.take k) ++ [(p.lo, p.hi)])) (by rw [hE]; rfl) (fun e => by simp [roomsE] at e) (fun g cap => ?_)
            refine WOps.cons (Op1.storeO (i := 1) rfl rfl rfl rfl rfl rfl (by show 3 ≤ 3; decide) ?_)
            refine WOps.ent (Ent.soV (i := 0) (t := 28) rfl rfl rfl) ?_
            have hrl3 : (roomsE (roomsL (f.parts.take k) ++ [(p.lo, p.hi)])).length = (roomsL (f.parts.take k) ++ [(p.lo, p.hi)]).length := List.length_map _
            refine WOps.ent (Ent.cellsSub (j := 0) (lookC f (roomsL (f.parts.take k) ++ [(p.lo, p.hi)]) (some (some ⟨g, 0, none⟩, cap))) rfl ⟨SubA.refl _, SubA.refl _, (fun S v h => by simp only [Rep] at h ⊢; rw [← hrl3]; exact h), trivial⟩) ?_
            refine WOps.nil ⟨some (some ⟨g, 0, none⟩, cap), (fun e => by cases e), ?_⟩
            rw [hR]
            exact Ent.el ⟨rfl, rfl, rfl, rfl, rfl, trivial⟩
        · have hr : p.roomy = false := by simp at hw; simp [Part.roomy, hw]
          rw [if_neg (by simp [hr])] at hR
          rw [hR]
          refine LWp.skip ⟨y, hy, ?_⟩
          cases y with
          | none => exact Ent.el ⟨rfl, rfl, rfl, rfl, trivial⟩
          | some z => exact Ent.el ⟨rfl, rfl, rfl, rfl, rfl, trivial⟩
      · intro y hy
        cases y with
        | none =>
          refine LWp.x (gs := []) (hs := []) rfl ⟨by omega, trivial⟩ ?_
          exact ⟨(k + 1, none), ⟨by omega, hy⟩, by simp only; omega, Ent.el ⟨rfl, rfl, rfl, rfl, trivial⟩⟩
        | some z =>
          refine LWp.x (gs := []) (hs := []) rfl ⟨by omega, trivial⟩ ?_
          exact ⟨(k + 1, some z), ⟨by omega, hy⟩, by simp only; omega, Ent.el ⟨rfl, rfl, rfl, rfl, rfl, trivial⟩⟩
    · simp only [decide_eq_false_iff_not, Int.ofNat_lt] at hc
      rw [List.take_of_length_le (by omega)] at hy ⊢
      cases y with
      | none => exact LWp.exit ⟨none, hy, Ent.el ⟨rfl, trivial⟩⟩
      | some z => exact LWp.exit ⟨some z, hy, Ent.el ⟨rfl, rfl, trivial⟩⟩
  · intro y hy
    have hrl2 : (roomsE (roomsL f.parts)).length = (roomsL f.parts).length := List.length_map _
    have fin : ∀ (c : AV) (rest : List (Nat × AV)), SubA c (roomsV (roomsL f.parts)) → LWp Try.prog none 33 (.seq (.ops [⟨some 32, none, .mov (tm 3)⟩, ⟨some 2, none, .mov (tm 32)⟩]) .ret) (retP Try.prog [.tmp 2] (lookV f)) (el ((3, .po b 0) :: rest)) [(b, .cells 99 [Str f.name, partsV f.parts, c])] [] := by
      intro c rest hc
      refine LWp.ent (Ent.cellsSub (j := 0) [Str f.name, partsV f.parts, roomsV (roomsL f.parts)] rfl ⟨SubA.refl _, SubA.refl _, hc, trivial⟩) ?_
      refine LWp.ent (Ent.freezeBox (i := 0) 3 rfl rfl) ?_
      refine LWp.sx (gs := []) (hs := []) rfl trivial ?_
      refine LWp.ret (retT (.inr rfl) (.one (.tmp ?_ rfl)))
      rfl
    cases y with
    | none => exact fin .nil [] (by rw [hy rfl]; exact SubA.nil 2)
    | some z =>
      obtain ⟨ad, cap⟩ := z
      refine LWp.shareV 28 rfl (fun e0 e1 e2 => ?_) (fun g e1 => ?_)
      · have e0 : roomsL f.parts = [] := by simpa [roomsE] using e0
        subst e1 e2
        refine LWp.ent (Ent.el (l := [(3, .po b 0)]) ⟨rfl, trivial⟩) ?_
        refine fin (.v (.slice none (roomsL f.parts).length 0)) [] ?_
        rw [e0]
        intro S v h
        rw [Rep] at h
        show Rep S (.sl 2 []) v
        rw [Rep]
        exact .inl ⟨⟨none, h⟩, rfl⟩
      · subst e1
        refine LWp.ent (Ent.cellsSub (j := 1) [Str f.name, partsV f.parts, .so g (roomsE (roomsL f.parts)).length cap] rfl ⟨SubA.refl _, SubA.refl _, (fun S v h => (hrl2.symm ▸ h : v = Value.slice (some ⟨g, 0, none⟩) (roomsE (roomsL f.parts)).length cap)), trivial⟩) ?_
        refine LWp.ent (Ent.freezeArrAt (i := 0) (j := 0) [Str f.name, partsV f.parts, roomsV (roomsL f.parts)] rfl rfl ⟨.inl rfl, .inl rfl, .inr ⟨rfl, rfl⟩, trivial⟩) ?_
        refine LWp.ent (Ent.el (l := [(3, .po b 0)]) ⟨rfl, trivial⟩) ?_
        exact fin _ [] (SubA.refl _)
end Go.Px

namespace Go.Px
open Go.Proofs
/-- The form of a number. -/
def formOf (s : Shelf) (n : Int) : Form := match s.forms[n.toNat]? with | some f => f | none => ⟨[], []⟩
/-- What 'enter' returns. -/
def enterV (s : Shelf) (n : Int) : AV := if formI s n = 0 then lookV (formOf s n) else .v (.pointer none)
theorem enter_ev (s : Shelf) (hw : s.wf) (n : Int) : Ev Try.prog 64 [.agg s.enc, I n] (.tup [enterV s n, I (formI s n)]) := by
  have hfl : (s.forms.map Form.enc).length = s.forms.length := List.length_map _
  have hck := check_ev s hw
  refine Ev.intro fn64 ?_
  by_cases h0 : (checkS s).2.2 = 0
  · have V := shelf_iff.1 h0
    have hf4 := V.f4
    rw [h0] at hck
    refine LWp.sx (gs := []) (hs := [.ice]) rfl ⟨⟨rfl, rfl⟩, trivial⟩ ?_
    refine LWp.seq (LWp.seq ?_)
    refine LWp.x (gs := []) (hs := [.ret (.tup [I (checkS s).1, I (checkS s).2.1, I 0])]) rfl ⟨hck, trivial⟩ ?_
    refine LWp.seq ?_
    refine LWp.x (gs := []) (hs := []) rfl trivial ?_
    refine LWp.ite (b := false) rfl (fun h => by cases h) (fun _ => LWp.skip ?_)
    refine LWp.seq (LWp.seq ?_)
    have hof := off_ev 0 ((s.forms.length : Int) - 1) [n]
    by_cases hb : beyondB 0 ((s.forms.length : Int) - 1) [n] = true
    · have hI : formI s n = 4 := by unfold formI; rw [if_pos h0, if_pos hb]
      have hV : enterV s n = .v (.pointer none) := by unfold enterV; rw [if_neg (by rw [hI]; decide)]
      rw [hb] at hof
      rw [hI, hV]
      refine LWp.x (gs := []) (hs := [.ice, .retS [I 0, I ((s.forms.length : Int) - 1), ints [n]] (B true)]) rfl ⟨⟨by omega, by omega⟩, rfl, ⟨hof, subL_self (by rw [← hfl]; rfl)⟩, trivial⟩ ?_
      refine LWp.ite (b := true) rfl (fun _ => ?_) (fun h => by cases h)
      refine LWp.sx (gs := []) (hs := []) rfl trivial ?_
      refine LWp.ret (retT (.inr rfl) (.many (by decide) ⟨.tmp ?_ rfl, .tmp ?_ rfl, trivial⟩))
      · rfl
      · rfl
    · have hb : beyondB 0 ((s.forms.length : Int) - 1) [n] = false := by simpa using hb
      have hI : formI s n = 0 := by unfold formI; rw [if_pos h0, if_neg (by simp [hb])]
      have hV : enterV s n = lookV (formOf s n) := by unfold enterV; rw [if_pos hI]
      obtain ⟨_, _, h1, h2, h3, f, hf, hv, hpo⟩ := formI_iff hI
      have hfo : formOf s n = f := by unfold formOf; rw [hf]
      rw [hb] at hof
      rw [hI, hV, hfo]
      refine LWp.x (gs := []) (hs := [.ice, .retS [I 0, I ((s.forms.length : Int) - 1), ints [n]] (B false)]) rfl ⟨⟨by omega, by omega⟩, rfl, ⟨hof, subL_self (by rw [← hfl]; rfl)⟩, trivial⟩ ?_
      refine LWp.ite (b := false) rfl (fun h => by cases h) (fun _ => LWp.skip ?_)
      refine LWp.sx (gs := []) (hs := [.cells f.enc, .ret (lookV f)]) rfl ⟨⟨h1, by simp [hf]⟩, look_ev f hv.p5, trivial⟩ ?_
      refine LWp.ret (retT (.inr rfl) (.many (by decide) ⟨.tmp ?_ rfl, .tmp ?_ rfl, trivial⟩))
      · rfl
      · rfl
  · have hI : formI s n = (checkS s).2.2 := by unfold formI; rw [if_neg h0]
    have hV : enterV s n = .v (.pointer none) := by unfold enterV; rw [if_neg (by rw [hI]; exact h0)]
    rw [hI, hV]
    generalize (checkS s).2.2 = c3 at h0 hck
    refine LWp.sx (gs := []) (hs := [.ice]) rfl ⟨⟨rfl, rfl⟩, trivial⟩ ?_
    refine LWp.seq (LWp.seq ?_)
    refine LWp.x (gs := []) (hs := [.ret (.tup [I (checkS s).1, I (checkS s).2.1, I c3])]) rfl ⟨hck, trivial⟩ ?_
    refine LWp.seq ?_
    refine LWp.x (gs := []) (hs := []) rfl trivial ?_
    refine LWp.ite (b := true) (by show B _ = B _; simp [h0]) (fun _ => ?_) (fun h => by cases h)
    refine LWp.sx (gs := []) (hs := []) rfl trivial ?_
    refine LWp.ret (retT (.inr rfl) (.many (by decide) ⟨.tmp ?_ rfl, .tmp ?_ rfl, trivial⟩))
    · rfl
    · rfl
end Go.Px

namespace Go.Px
open Go.Proofs
theorem make_ev (s : Shelf) (hw : s.wf) (n : Int) (fs : List (List Wd)) : Ev Try.prog 18 [.agg s.enc, I n, fillsV fs] (.tup [strs (makeR s n fs).1, I (makeR s n fs).2]) := by
  have hfl : (fs.map fun f => [strs f]).length = fs.length := List.length_map _
  have hen := enter_ev s hw n
  refine Ev.intro fn18 ?_
  refine LWp.slLen 2 rfl fun hll => ?_
  by_cases h0 : formI s n = 0
  case neg =>
    have hV : enterV s n = .v (.pointer none) := by unfold enterV; rw [if_neg h0]
    have hE : makeE s n fs = formI s n := by rw [makeE, if_neg h0]
    rw [hV] at hen
    have hR : makeR s n fs = ([], formI s n) := by unfold makeR; rw [hE, if_neg h0]
    rw [hR]
    generalize formI s n = e at h0 hen
    refine LWp.sx (gs := []) (hs := [.ice]) rfl ⟨⟨rfl, rfl⟩, trivial⟩ ?_
    refine LWp.sx (gs := []) (hs := [.ret (.tup [.v (.pointer none), I e])]) rfl ⟨hen, trivial⟩ ?_
    refine LWp.seqBlock ?_
    refine LWp.sx (gs := []) (hs := []) rfl trivial ?_
    refine LWp.ite (b := true) (by show B _ = B _; simp [h0]) (fun _ => ?_) (fun h => by cases h)
    refine LWp.sx (gs := []) (hs := []) rfl trivial ?_
    refine LWp.ent (Ent.nilSl (t := 6) 1 rfl) ?_
    refine LWp.ret (retT (.inr rfl) (.many (by decide) ⟨.tmp ?_ rfl, .tmp ?_ rfl, trivial⟩))
    · rfl
    · rfl
  obtain ⟨h00, V, h1, h2, h3, f, hf, hv, hpo⟩ := formI_iff h0
  have hfo : formOf s n = f := by unfold formOf; rw [hf]
  have hp5 := hv.p5
  have hV : enterV s n = lookV f := by unfold enterV; rw [if_pos h0, hfo]
  have hE : makeE s n fs = putE (roomsL f.parts) fs := by rw [makeE, if_pos h0, hpo]
  rw [hV, h0] at hen
  generalize hrs : roomsL f.parts = rs at hE
  have hrl : (rs.map fun r => [I r.1, I r.2]).length = rs.length := List.length_map _
  have bad : ∀ {e : Int} {env : Env} {H : Heap}, makeE s n fs = e → e ≠ 0 → env 6 = .sl 1 [] → env 7 = I e → retP Try.prog [.tmp 6, .tmp 7] (.tup [strs (makeR s n fs).1, I (makeR s n fs).2]) .ret env H [] := by
    intro e env H h1 h2 h6 h7
    have hR : makeR s n fs = ([], e) := by unfold makeR; rw [h1, if_neg h2]
    rw [hR]
    exact retT (.inr rfl) (.many (by decide) ⟨.tmp h6 rfl, .tmp h7 rfl, trivial⟩)
  have hlk : lookV f = .pi [Str f.name, partsV f.parts, roomsV rs] := by rw [← hrs]
  rw [hlk] at hen
  refine LWp.sx (gs := []) (hs := [.ice]) rfl ⟨⟨rfl, rfl⟩, trivial⟩ ?_
  refine LWp.sx (gs := []) (hs := [.ret (.tup [.pi [Str f.name, partsV f.parts, roomsV rs], I 0])]) rfl ⟨hen, trivial⟩ ?_
  refine LWp.seqBlock ?_
  refine LWp.sx (gs := []) (hs := []) rfl trivial ?_
  refine LWp.ite (b := false) rfl (fun h => by cases h) (fun _ => ?_)
  refine LWp.sx (gs := []) (hs := []) rfl trivial ?_
  refine LWp.ite rfl (fun hc => ?_) (fun hc => ?_)
  · have hc : fs.length ≠ rs.length := by
      intro e
      simp [e] at hc
    refine LWp.sx (gs := []) (hs := []) rfl trivial ?_
    refine LWp.ent (Ent.nilSl (t := 6) 1 rfl) ?_
    exact LWp.ret (bad (by rw [hE, putE, if_neg hc]) (by decide) rfl rfl)
  have hc : fs.length = rs.length := by
    simp at hc; omega
  have hrl5 : rs.length ≤ 5 := by rw [← hrs]; exact Nat.le_trans (roomsL_len _) hp5
  have hE2 : makeE s n fs = (failF (putE1 rs fs) fs.length 0).2 := by rw [hE, putE, if_pos hc]
  refine LWp.skip ?_
  refine LWp.seq (LWp.seq ?_)
  refine LWp.x (gs := []) (hs := []) rfl trivial ?_
  refine LWp.blockT (fun _ : Unit => (failF (putE1 rs fs) fs.length 0).2 = 0) (fun _ => el [(2, fillsV fs), (6, .nil), (8, .pi [Str f.name, partsV f.parts, roomsV rs])]) (fun _ => []) (fun _ => []) ?_ ?_
  · refine LWp.loopN (fun k : Nat => k ≤ fs.length ∧ failF (putE1 rs fs) fs.length 0 = failF (putE1 rs fs) (fs.length - k) k) (fun k => el [(2, fillsV fs), (6, .nil), (8, .pi [Str f.name, partsV f.parts, roomsV rs]), (33, fillsV fs), (34, I fs.length), (35, I k)]) (fun _ => []) (fun _ => []) (fun k => fs.length - k) 0 ⟨by omega, rfl⟩
      (Ent.el ⟨rfl, rfl, rfl, rfl, by show I _ = I _; rw [hfl], rfl, trivial⟩) ?_
    rintro k ⟨hk, hi⟩
    refine LWp.sx (gs := []) (hs := []) rfl trivial ?_
    refine LWp.seq (LWp.ite rfl (fun he => ?_) (fun he => ?_))
    · simp only [decide_eq_true_eq, Int.ofNat_lt] at he
      obtain ⟨g, hg⟩ := ex_get he
      obtain ⟨r, hr⟩ := ex_get (l := rs) (k := k) (by omega)
      have hpe : putE1 rs fs k = if beyondB r.1 r.2 [(g.length : Int)] = true then 7 else if wordsB g = true then 0 else 6 := by
        simp only [putE1, hr, hg]
      rw [failF_step he] at hi
      have hgl : (g.map fun s => [Str s]).length = g.length := List.length_map _
      have hof := off_ev r.1 r.2 [(g.length : Int)]
      have hwo := worded_ev g
      refine LWp.skip ?_
      refine LWp.blockX (fun _ : Unit => putE1 rs fs k = 0) (fun _ => el [(2, fillsV fs), (6, .nil), (8, .pi [Str f.name, partsV f.parts, roomsV rs]), (33, fillsV fs), (34, I fs.length), (35, I k)]) (fun _ => []) (fun _ => []) ?_ ?_
      · refine LWp.sx (gs := []) (hs := [.cells [strs g]]) rfl ⟨⟨by omega, by simp [hg]⟩, trivial⟩ ?_
        refine LWp.seq (LWp.seq ?_)
        generalize hbb : beyondB r.1 r.2 [(g.length : Int)] = bb at hof hpe
        refine LWp.dd (gs := []) (hs := [.cells [I r.1, I r.2], .cells [I r.1, I r.2], .ice, .retS [I r.1, I r.2, ints [(g.length : Int)]] (B bb)]) hmix rfl (by kernel_rfl) ⟨⟨by omega, by simp [hr]⟩, ⟨by omega, by simp [hr]⟩, rfl, ⟨hof, subL_self (by rw [← hgl]; rfl)⟩, trivial⟩ ?_
        refine LWp.ite rfl (fun hb => ?_) (fun hb => LWp.skip ?_)
        · rw [if_pos hb] at hpe
          refine LWp.sx (gs := []) (hs := []) rfl trivial ?_
          refine LWp.ent (Ent.nilSl (t := 6) 1 rfl) ?_
          exact LWp.ret (bad (by rw [hE2, hi, hpe]; rfl) (by decide) rfl rfl)
        rw [if_neg (by simp [hb])] at hpe
        generalize hww : (if wordsB g = true then (0 : Int) else 6) = e at hpe hwo
        refine LWp.sx (gs := []) (hs := [.ret (I e)]) rfl ⟨hwo, trivial⟩ ?_
        refine LWp.sx (gs := []) (hs := []) rfl trivial ?_
        refine LWp.ite rfl (fun hw => ?_) (fun hw => ?_)
        · have hw : e ≠ 0 := by simpa using hw
          refine LWp.sx (gs := []) (hs := []) rfl trivial ?_
          refine LWp.ent (Ent.nilSl (t := 6) 1 rfl) ?_
          exact LWp.ret (bad (by rw [hE2, hi, hpe, if_neg hw]) hw rfl rfl)
        · have hw : e = 0 := by simpa using hw
          exact LWp.skip ⟨(), hpe.trans hw, Ent.el ⟨rfl, rfl, rfl, rfl, rfl, rfl, trivial⟩⟩
      intro _ hz
      rw [if_pos hz] at hi
      refine LWp.x (gs := []) (hs := []) rfl ⟨by omega, trivial⟩ ?_
      exact ⟨k + 1, ⟨by omega, hi⟩, by omega, Ent.el ⟨rfl, rfl, rfl, rfl, rfl, rfl, trivial⟩⟩
    · simp only [decide_eq_false_iff_not, Int.ofNat_lt] at he
      refine LWp.exit ⟨(), ?_, Ent.el ⟨rfl, rfl, rfl, trivial⟩⟩
      rw [hi, show fs.length - k = 0 by omega]; rfl
  intro _ hz
  have hE0 : putE rs fs = 0 := by rw [putE, if_pos hc]; exact hz
  have hM0 : makeE s n fs = 0 := hE.trans hE0
  obtain ⟨b1, b2⟩ := built_small hv (hrs ▸ hE0)
  have hR : makeR s n fs = (builtF f.parts fs, 0) := by unfold makeR; rw [if_pos hM0, hpo]
  rw [hR]
  have hpl : (f.parts.map Part.enc).length = f.parts.length := List.length_map _
  refine LWp.sx (gs := []) (hs := []) rfl trivial ?_
  refine LWp.seq (LWp.seq ?_)
  refine LWp.x (gs := []) (hs := []) rfl trivial ?_
  refine LWp.blockT (fun _ : Unit => True) (fun _ => el [(6, .lin 9 1 ((builtF f.parts fs).map fun s => [Str s]))]) (fun _ => []) (fun _ => []) ?_ ?_
  · refine LWp.loopN (fun x : Nat × Nat × List Wd => x.1 ≤ f.parts.length ∧ x.2.1 + (roomsL (f.parts.drop x.1)).length = fs.length ∧ builtF f.parts fs = x.2.2 ++ builtF (f.parts.drop x.1) (fs.drop x.2.1)) (fun x => el [(2, fillsV fs), (6, .lin 9 1 (x.2.2.map fun s => [Str s])), (11, I x.2.1), (70, partsV f.parts), (71, I f.parts.length), (72, I x.1)]) (fun _ => []) (fun _ => []) (fun x => f.parts.length - x.1) (0, 0, []) ⟨by omega, by simp; rw [hrs]; exact hc.symm ▸ rfl, rfl⟩
      (Ent.trans (Ent.nilLin (t := 6) 9 1 rfl) (Ent.el ⟨rfl, rfl, rfl, rfl, by show I _ = I _; rw [hpl], rfl, trivial⟩)) ?_
    rintro ⟨k, q, acc⟩ ⟨hk, hr, hi⟩
    simp only at hk hr hi
    have hal : acc.length ≤ 15 := by rw [hi, List.length_append] at b2; omega
    have hall : (acc.map fun s => [Str s]).length = acc.length := List.length_map _
    refine LWp.ent (Ent.el (l := [(2, fillsV fs), (6, .lin 9 1 (acc.map fun s => [Str s])), (11, I q), (70, partsV f.parts), (71, I f.parts.length), (72, I k)]) ⟨rfl, rfl, rfl, rfl, rfl, rfl, trivial⟩) ?_
    refine LWp.sx (gs := []) (hs := []) rfl trivial ?_
    refine LWp.seq (LWp.ite rfl (fun he => ?_) (fun he => ?_))
    · simp only [decide_eq_true_eq, Int.ofNat_lt] at he
      obtain ⟨p, hx⟩ := ex_get he
      rw [drop_cons hx, roomsL_cons] at hr
      rw [drop_cons hx, builtF] at hi
      refine LWp.skip ?_
      refine LWp.blockX (fun x : Nat × List Wd => x.1 + (roomsL (f.parts.drop (k + 1))).length = fs.length ∧ builtF f.parts fs = x.2 ++ builtF (f.parts.drop (k + 1)) (fs.drop x.1)) (fun x => el [(2, fillsV fs), (6, .lin 9 1 (x.2.map fun s => [Str s])), (11, I x.1), (70, partsV f.parts), (71, I f.parts.length), (72, I k)]) (fun _ => []) (fun _ => []) ?_ ?_
      · refine LWp.sx (gs := []) (hs := [.cells p.enc, .lin]) rfl ⟨⟨by omega, by simp [hx]⟩, rfl, ⟨rfl, rfl, rfl, by decide⟩, trivial⟩ ?_
        refine LWp.ent (Ent.freezeLbox (t := 13) rfl) ?_
        have hwl0 : (p.words.map fun s => [Str s]).length = p.words.length := List.length_map _
        refine LWp.seq (LWp.seq ?_)
        refine LWp.x (gs := []) (hs := []) rfl trivial ?_
        refine LWp.cutT (fun x : Nat × List Wd => x.1 + (roomsL (f.parts.drop (k + 1))).length = fs.length ∧ builtF f.parts fs = (x.2 ++ p.words) ++ builtF (f.parts.drop (k + 1)) (fs.drop x.1)) (fun x => el [(2, fillsV fs), (6, .lin 9 1 (x.2.map fun s => [Str s])), (11, I x.1), (13, .pi p.enc), (70, partsV f.parts), (71, I f.parts.length), (72, I k)]) (fun _ => []) (fun _ => []) ?_ ?_
        · refine LWp.ite rfl (fun hq => ?_) (fun hq => LWp.skip ?_)
          · have hq0 : p.words = [] := by simpa using hq
            have hq : p.roomy = true := by simp [Part.roomy, hq0]
            rw [if_pos hq] at hr hi
            simp only [List.length_cons] at hr
            obtain ⟨g, hg⟩ := ex_get (l := fs) (k := q) (by omega)
            rw [drop_cons hg, List.headD_cons, List.tail_cons] at hi
            have hgl : (g.map fun s => [Str s]).length = g.length := List.length_map _
            have hwl : acc.length + g.length ≤ 15 := by rw [hi, List.length_append, List.length_append] at b2; omega
            refine LWp.sx (gs := []) (hs := [.cells [strs g]]) rfl ⟨⟨by omega, by simp [hg]⟩, ⟨by rw [hall, hgl]; omega, by rw [hall, hgl]; omega⟩, trivial⟩ ?_
            refine LWp.x (gs := []) (hs := []) rfl ⟨by omega, trivial⟩ ?_
            exact ⟨(q + 1, acc ++ g), ⟨by simp only; omega, by rw [hi, hq0, List.append_nil, List.append_assoc]⟩, Ent.el ⟨rfl, by show AV.lin _ _ _ = _; rw [List.map_append], rfl, rfl, rfl, rfl, rfl, trivial⟩⟩
          · have hq0 : p.words ≠ [] := by simpa using hq
            have hq : ¬ p.roomy = true := by simp [Part.roomy, hq0]
            rw [if_neg hq] at hr hi
            exact ⟨(q, acc), ⟨hr, by rw [hi, List.append_assoc]⟩, Ent.el ⟨rfl, rfl, rfl, rfl, rfl, rfl, rfl, trivial⟩⟩
        · rintro ⟨q', acc'⟩ ⟨g1, g2⟩
          simp only at g1 g2
          have hall' : (acc'.map fun s => [Str s]).length = acc'.length := List.length_map _
          have hwl : acc'.length + p.words.length ≤ 15 := by rw [g2, List.length_append, List.length_append] at b2; omega
          refine LWp.x (gs := []) (hs := []) rfl (by exact ⟨⟨by rw [hall', hwl0]; omega, by rw [hall', hwl0]; omega⟩, trivial⟩) ?_
          exact ⟨(q', acc' ++ p.words), ⟨g1, g2⟩, Ent.el ⟨rfl, by show AV.lin _ _ _ = _; rw [List.map_append], rfl, rfl, rfl, rfl, trivial⟩⟩
      rintro ⟨q', acc'⟩ ⟨h1, h2⟩
      refine LWp.x (gs := []) (hs := []) rfl ⟨by omega, trivial⟩ ?_
      exact ⟨(k + 1, q', acc'), ⟨by simp only; omega, h1, h2⟩, by simp only; omega, Ent.el ⟨rfl, rfl, rfl, rfl, rfl, rfl, trivial⟩⟩
    · simp only [decide_eq_false_iff_not, Int.ofNat_lt] at he
      refine LWp.exit ⟨(), trivial, Ent.el ⟨?_, trivial⟩⟩
      have hn0 : f.parts.drop k = [] := List.drop_eq_nil_of_le (by omega)
      rw [hi, hn0, builtF, List.append_nil]; rfl
  intro _ _
  refine LWp.sx (gs := []) (hs := []) rfl trivial ?_
  refine LWp.ent (Ent.freezeLin (t := 6) rfl) ?_
  refine LWp.ret (retT (.inr rfl) (.many (by decide) ⟨.tmp ?_ rfl, .tmp ?_ rfl, trivial⟩))
  · rfl
  · rfl
end Go.Px

namespace Go.Px
open Go.Proofs
abbrev intsC (ms : List Int) : List AV := ms.map fun n => I n
/-- Numbers in an array of five. -/
def pad5 (c : List Nat) : List Int := (c.map fun (n : Nat) => (n : Int)) ++ List.replicate (5 - c.length) 0
abbrev manyV (c : List Nat) : AV := .agg (intsC (pad5 c))
theorem counts_ev (f : Form) : Ev Try.prog 105 [lookV f] (.fn (.func 128) [] [.pi [lookV f]]) := by
  refine Ev.intro fn105 ?_
  refine LWp.sx (gs := []) (hs := [.ice]) rfl ⟨⟨rfl, rfl⟩, trivial⟩ ?_
  refine LWp.sx (gs := []) (hs := []) rfl trivial ?_
  refine LWp.ret (retT (.inr rfl) (.one (.tmp ?_ rfl)))
  rfl
/-- What the closure 'next' bears. -/
def cnextF (f : Form) (y : AV) (bm b5 : Nat) : AV := .fn (.func 129) [] [.pi [lookV f], .pi [y], .po bm 0, .po b5 0]
def cnextH (f : Form) (y : AV) (bm b5 : Nat) : Nat × HObj := (b5, .cells 143 [cnextF f y bm b5])
def cmH (bm : Nat) (ms : List Int) : Nat × HObj := (bm, .cells 105 (intsC ms))
/-- What is in the array while it is filled. -/
structure MOK (L k : Nat) (pre : List Nat) (ms : List Int) : Prop where
  len : ms.length = 5
  pre : ms.take k = pre.map fun (n : Nat) => (n : Int)
  zero : ms.drop L = List.replicate (5 - L) 0
theorem setSeg_set (ms : List Int) (k : Nat) (n : Int) (h : k < ms.length) : setSeg (intsC ms) (0 + (k : Int).toNat * 1) [I n] = intsC (ms.set k n) := by
  unfold setSeg intsC
  rw [Int.toNat_natCast, Nat.zero_add, Nat.mul_one, List.map_set, List.set_eq_take_append_cons_drop, if_pos (by simpa using h)]
  simp
theorem five {α : Type} {l : List α} (h : l.length = 5) : ∃ a b c d e, l = [a, b, c, d, e] := by
  match l, h with
  | [a, b, c, d, e], _ => exact ⟨a, b, c, d, e, rfl⟩
section
variable (T : List (List Nat) → Heap) (all : List (List Nat)) (y : Fn) (f : Form) (bm b5 : Nat)
theorem cnext_ev (h5 : (roomsL f.parts).length ≤ 5) (hr : ∀ r ∈ roomsL f.parts, 0 ≤ r.1 ∧ r.1 ≤ r.2 ∧ 1 ≤ r.2 ∧ r.2 ≤ 3) (hy : ∀ dn c rest, dn ++ c :: rest = all → EvF Try.prog y [] [manyV c] (T dn) (fun r Ho => r = B true ∧ Ho = T (dn ++ [c]))) :
    ∀ (rs : List (Int × Int)) (k : Nat) (pre : List Nat) (ms : List Int) (dn rest : List (List Nat)), (roomsL f.parts).drop k = rs → k ≤ (roomsL f.parts).length → pre.length = k → MOK (roomsL f.parts).length k pre ms → dn ++ ((cnts rs).map (pre ++ ·) ++ rest) = all →
      EvR Try.prog 129 [I k, .pi [lookV f], .pi [.fn y [] []], .po bm 0, .po b5 0] (cnextH f (.fn y [] []) bm b5 :: cmH bm ms :: T dn)
        (fun r Ho => r = B true ∧ ∃ ms', MOK (roomsL f.parts).length k pre ms' ∧ Ho = cnextH f (.fn y [] []) bm b5 :: cmH bm ms' :: T (dn ++ (cnts rs).map (pre ++ ·))) := by
  generalize hR : roomsL f.parts = R at h5 hr
  have hlk : lookV f = .pi [Str f.name, partsV f.parts, roomsV R] := by rw [← hR]
  have hRl : (R.map fun r => [I r.1, I r.2]).length = R.length := List.length_map _
  intro rs
  induction rs with
  | nil =>
    intro k pre ms dn rest hd hk hp hm hall
    have hkl : k = R.length := by
      have := congrArg List.length hd
      simp at this; omega
    have hpad : ms = pad5 pre := by
      have h1 := hm.pre
      have h2 := hm.zero
      rw [hkl] at h1
      have := List.take_append_drop R.length ms
      rw [h1, h2] at this
      rw [← this]
      unfold pad5
      rw [hp, hkl]
    obtain ⟨a0, a1, a2, a3, a4, rfl⟩ := five hm.len
    refine EvR.intro fn129 ?_
    refine LWp.sx (gs := []) (hs := []) rfl trivial ?_
    refine LWp.seq (LWp.seq ?_)
    rw [hlk]
    refine LWp.x (gs := []) (hs := []) rfl trivial ?_
    refine LWp.ite (b := true) (by show B _ = B _; rw [hRl, hkl]; simp) (fun _ => ?_) (fun h => by cases h)
    refine LWp.seq (LWp.ops ?_)
    refine WOps.xn (gs := []) (hs := [.at 1]) 2 rfl rfl ⟨rfl, trivial⟩ ?_
    refine WOps.ent (Ent.perm (List.perm_append_comm (l₁ := [cnextH f (.fn y [] []) bm b5, cmH bm [a0, a1, a2, a3, a4]]) (l₂ := T dn))) ?_
    refine WOps.cons (Op1.callvR (Hin := T dn) (H0 := [cnextH f (.fn y [] []) bm b5, cmH bm [a0, a1, a2, a3, a4]]) rfl (hy dn pre rest (by simpa [cnts] using hall)) rfl rfl (subL_self (by show [AV.agg (intsC [a0, a1, a2, a3, a4])] = [manyV pre]; rw [hpad])) rfl ?_)
    rintro res Hout ⟨rfl, rfl⟩
    refine WOps.ent (Ent.perm (List.perm_append_comm (l₁ := T (dn ++ [pre])) (l₂ := [cnextH f (.fn y [] []) bm b5, cmH bm [a0, a1, a2, a3, a4]]))) ?_
    refine WOps.xd (gs := []) (hs := []) rfl trivial ?_
    refine LWp.ret ⟨.inr rfl, _, _, _, rfl, .one (.tmp rfl rfl), ⟨rfl, [a0, a1, a2, a3, a4], hm, ?_⟩, List.Sublist.refl _⟩
    simp [cnts]
  | cons r rs ih =>
    intro k pre ms dn rest hd hk hp hm hall
    have hrk : R[k]? = some r := by
      have := congrArg (fun l => l[0]?) hd
      simpa using this
    have hd' : R.drop (k + 1) = rs := by
      have := drop_cons hrk
      rw [hd] at this
      exact (List.cons.inj this).2.symm
    have hkl : k < R.length := (List.getElem?_eq_some_iff.1 hrk).1
    obtain ⟨r0, r1, r2, r3⟩ := hr r (List.mem_of_getElem? hrk)
    refine EvR.intro fn129 ?_
    refine LWp.sx (gs := []) (hs := []) rfl trivial ?_
    refine LWp.seq (LWp.seq ?_)
    rw [hlk]
    refine LWp.x (gs := []) (hs := []) rfl trivial ?_
    refine LWp.ite (b := false) (by show B _ = B _; rw [hRl]; congr 2; simp; omega) (fun h => by cases h) (fun _ => LWp.skip ?_)
    refine LWp.seq (LWp.seq ?_)
    refine LWp.x (gs := []) (hs := [.cells [I r.1, I r.2]]) rfl ⟨⟨by omega, by simp [hrk]⟩, trivial⟩ ?_
    rw [← hlk]
    generalize hq : (r.2 + 1 - r.1).toNat = q
    have hup : upto r.1 r.2 = (List.range q).map fun j => r.1.toNat + j := by unfold upto; rw [hq]
    let G : Nat → List (List Nat) := fun j => ((List.range j).map fun j => r.1.toNat + j).flatMap fun n => (cnts rs).map ((pre ++ [n]) ++ ·)
    have hG : (cnts (r :: rs)).map (pre ++ ·) = G q := by
      show ((upto r.1 r.2).flatMap fun n => (cnts rs).map (n :: ·)).map (pre ++ ·) = _
      rw [hup, List.map_flatMap]
      show _ = ((List.range q).map fun j => r.1.toNat + j).flatMap fun n => (cnts rs).map ((pre ++ [n]) ++ ·)
      congr 1
      funext n
      rw [List.map_map]
      congr 1
      funext l
      simp
    have hGs : ∀ j, G (j + 1) = G j ++ (cnts rs).map ((pre ++ [r.1.toNat + j]) ++ ·) := by
      intro j
      show ((List.range (j + 1)).map fun j => r.1.toNat + j).flatMap _ = _
      rw [List.range_succ, List.map_append, List.flatMap_append]
      simp [G]
    let GR : Nat → List (List Nat) := fun j => (((List.range q).drop (j + 1)).map fun j => r.1.toNat + j).flatMap (fun n => (cnts rs).map ((pre ++ [n]) ++ ·)) ++ rest
    have hGR : ∀ j, j < q → G j ++ ((cnts rs).map ((pre ++ [r.1.toNat + j]) ++ ·) ++ GR j) = G q ++ rest := by
      intro j hj
      have e : List.range q = List.range j ++ j :: (List.range q).drop (j + 1) := by
        have h1 := (List.take_append_drop j (List.range q)).symm
        rw [drop_cons (x := j) (by simp [hj])] at h1
        rw [List.take_range, Nat.min_eq_left (by omega)] at h1
        exact h1
      have : G q = G j ++ ((cnts rs).map ((pre ++ [r.1.toNat + j]) ++ ·) ++ (((List.range q).drop (j + 1)).map fun j => r.1.toNat + j).flatMap (fun n => (cnts rs).map ((pre ++ [n]) ++ ·))) := by
        show ((List.range q).map fun j => r.1.toNat + j).flatMap _ = _
        conv => lhs; rw [e]
        rw [List.map_append, List.flatMap_append, List.map_cons, List.flatMap_cons]
      rw [this]
      simp [GR]
    rw [hG] at hall ⊢
    have hm0 := hm
    refine LWp.blockT (Y := List Int) (fun m => MOK R.length k pre m) (fun _ => el []) (fun m => cnextH f (.fn y [] []) bm b5 :: cmH bm m :: T (dn ++ G q)) (fun _ => []) ?_ ?_
    · refine LWp.loopN (X := Nat × List Int) (fun z => z.1 ≤ q ∧ MOK R.length k pre z.2) (fun z => el [(0, I k), (1, .pi [lookV f]), (2, .pi [.fn y [] []]), (3, .po bm 0), (4, .po b5 0), (7, I (r.1 + z.1))])
        (fun z => cnextH f (.fn y [] []) bm b5 :: cmH bm z.2 :: T (dn ++ G z.1)) (fun _ => []) (fun z => q - z.1) (0, ms) ⟨by simp, hm⟩
        (Ent.trans (Ent.ofH (by simp [G])) (Ent.el ⟨rfl, rfl, rfl, rfl, rfl, by show I _ = I _; simp, trivial⟩)) ?_
      rintro ⟨j, m⟩ ⟨hj, hm⟩
      simp only at hj hm ⊢
      have hml := hm.len
      refine LWp.seq (LWp.seq ?_)
      rw [hlk]
      refine LWp.x (gs := []) (hs := [.cells [I r.1, I r.2]]) rfl ⟨⟨by omega, by simp [hrk]⟩, trivial⟩ ?_
      rw [← hlk]
      refine LWp.ite rfl (fun hc => ?_) (fun hc => ?_)
      · simp only [decide_eq_true_eq] at hc
        have hjq : j < q := by omega
        refine LWp.skip (LWp.seq (LWp.block ?_))
        refine LWp.seq (LWp.ops ?_)
        refine WOps.xn (gs := []) (hs := []) 3 rfl rfl ⟨⟨by omega, by omega⟩, trivial⟩ ?_
        refine WOps.cons (Op1.storeO (i := 1) rfl rfl rfl rfl rfl rfl (by simp [hml]; omega) ?_)
        refine WOps.ent (Ent.ofH (H' := cnextH f (.fn y [] []) bm b5 :: cmH bm (m.set k (r.1 + j)) :: T (dn ++ G j)) (by
          have := setSeg_set m k (r.1 + j) (by omega)
          show _ :: (bm, HObj.cells 105 (setSeg (intsC m) (0 + (k : Int).toNat * 1) [I (r.1 + j)])) :: _ = _
          rw [this]; rfl)) ?_
        refine WOps.xd (gs := []) (hs := []) rfl trivial ?_
        refine LWp.seq (LWp.ops ?_)
        refine WOps.xn (gs := []) (hs := [.at 0]) 3 rfl rfl ⟨rfl, by omega, trivial⟩ ?_
        have hm' : MOK R.length (k + 1) (pre ++ [r.1.toNat + j]) (m.set k (r.1 + j)) := by
          refine ⟨by rw [List.length_set, hml], ?_, ?_⟩
          · rw [take_snoc (x := r.1 + j) (by simp [List.getElem?_set]; omega), List.take_set_of_le (by omega), hm.pre, List.map_append]
            simp; omega
          · rw [List.drop_set_of_lt (by omega), hm.zero]
        refine WOps.cons (Op1.callvR (Hin := cnextH f (.fn y [] []) bm b5 :: cmH bm (m.set k (r.1 + j)) :: T (dn ++ G j)) (H0 := []) rfl (ih (k + 1) (pre ++ [r.1.toNat + j]) _ (dn ++ G j) (GR j) hd' (by omega) (by simp [hp]) hm' (by rw [← hall, ← hGR j hjq]; simp)) rfl rfl (SubL.refl _) (by simp) ?_)
        rintro res Hout ⟨rfl, m2, hm2, rfl⟩
        refine WOps.xd (gs := []) (hs := []) rfl trivial ?_
        refine LWp.ite (b := false) rfl (fun h => by cases h) (fun _ => LWp.skip ?_)
        have hm3 : MOK R.length k pre m2 := by
          refine ⟨hm2.len, ?_, hm2.zero⟩
          have := congrArg (List.take k) hm2.pre
          rw [List.take_take, Nat.min_eq_left (by omega)] at this
          rw [this, List.map_append, List.take_left' (by simp [hp])]
        refine LWp.x (gs := []) (hs := []) rfl ⟨by omega, trivial⟩ ?_
        refine ⟨(j + 1, m2), ⟨hjq, hm3⟩, by simp only; omega, Ent.trans (Ent.ofH ?_) (Ent.el ⟨rfl, rfl, rfl, rfl, rfl, ?_, trivial⟩)⟩
        · rw [hGs]; simp
        · refine congrArg (fun z : Int => I z) ?_
          simp only [Int.natCast_add, Int.natCast_one]
          omega
      · simp only [decide_eq_false_iff_not] at hc
        have hjq : j = q := by omega
        subst hjq
        exact LWp.exit ⟨m, hm, Ent.el trivial⟩
    · intro m hm
      refine LWp.sx (gs := []) (hs := []) rfl trivial ?_
      refine LWp.ret ⟨.inr rfl, _, _, _, rfl, .one (.tmp rfl rfl), ⟨rfl, m, hm, rfl⟩, List.Sublist.refl _⟩
theorem counts1_ev (h5 : (roomsL f.parts).length ≤ 5) (hr : ∀ r ∈ roomsL f.parts, 0 ≤ r.1 ∧ r.1 ≤ r.2 ∧ 1 ≤ r.2 ∧ r.2 ≤ 3) (hall : all = cnts (roomsL f.parts)) (hy : ∀ dn c rest, dn ++ c :: rest = all → EvF Try.prog y [] [manyV c] (T dn) (fun r Ho => r = B true ∧ Ho = T (dn ++ [c]))) :
    EvR Try.prog 128 [.fn y [] [], .pi [lookV f]] (T []) (fun _ Ho => Ho = T all) := by
  refine EvR.intro fn128 ?_
  refine LWp.sx (gs := []) (hs := [.ice]) rfl ⟨⟨rfl, rfl⟩, trivial⟩ ?_
  refine LWp.seq (LWp.ops (WOps.cons (Op1.alloc rfl (fun bm => ?_))))
  refine WOps.xd (gs := []) (hs := []) rfl trivial ?_
  refine LWp.seq (LWp.ops (WOps.cons (Op1.alloc rfl (fun b5 => ?_))))
  refine WOps.xd (gs := []) (hs := []) rfl trivial ?_
  refine LWp.seq (LWp.ops ?_)
  refine WOps.xn (gs := []) (hs := []) 1 rfl rfl trivial ?_
  refine WOps.cons (Op1.storeO (i := 0) rfl rfl rfl rfl rfl rfl (by decide) ?_)
  refine WOps.xd (gs := []) (hs := []) rfl trivial ?_
  refine LWp.ops ?_
  refine WOps.xn (gs := []) (hs := [.at 0]) 1 rfl rfl ⟨rfl, trivial⟩ ?_
  refine WOps.cons (Op1.callvR (Hin := cnextH f (.fn y [] []) bm b5 :: cmH bm [0, 0, 0, 0, 0] :: T []) (H0 := []) rfl (cnext_ev T all y f bm b5 h5 hr hy (roomsL f.parts) 0 [] [0, 0, 0, 0, 0] [] [] rfl (by omega) rfl ⟨rfl, rfl, ?_⟩ (by rw [hall]; simp)) rfl rfl (SubL.refl _) (by simp only [List.append_nil]; rfl) ?_)
  · generalize (roomsL f.parts).length = L at h5
    match L, h5 with
    | 0, _ => rfl
    | 1, _ => rfl
    | 2, _ => rfl
    | 3, _ => rfl
    | 4, _ => rfl
    | 5, _ => rfl
  rintro res Hout ⟨rfl, m, hm, rfl⟩
  refine WOps.xd (gs := []) (hs := []) rfl trivial ?_
  refine ⟨.inl rfl, _, .tup [], _, rfl, .many (by decide) trivial, rfl, ?_⟩
  simp only [List.append_nil]
  have e : [] ++ (cnts (roomsL f.parts)).map ([] ++ ·) = all := by rw [hall]; simp
  rw [e]
  exact List.Sublist.trans (List.sublist_cons_self _ _) (List.sublist_cons_self _ _)
end
end Go.Px

namespace Go.Px
open Go.Proofs
theorem pad5_get {c : List Nat} {q m : Nat} (h : c[q]? = some m) : (intsC (pad5 c)).drop q = I m :: (intsC (pad5 c)).drop (q + 1) := by
  refine drop_cons ?_
  unfold intsC pad5
  rw [List.getElem?_map, List.getElem?_append_left (by simpa using (List.getElem?_eq_some_iff.1 h).1), List.getElem?_map, h]; rfl
theorem intsC_cells (ms : List Int) : (intsC ms).all AV.isCell = true := by
  unfold intsC
  rw [List.all_map, List.all_eq_true]
  intro n _
  rfl
theorem blanks_enc (m : Nat) : (List.replicate m ([Value.string ⟨#[]⟩].map AV.v)) = (blanks m).map fun s => [Str s] := by
  rw [blanks, List.map_replicate]; rfl
theorem shape_ev (f : Form) (c : List Nat) (hn : c.length = (roomsL f.parts).length) (h5 : c.length ≤ 5) (hb : (shapeF f.parts c).length ≤ 1000) : Ev Try.prog 107 [lookV f, manyV c] (strs (shapeF f.parts c)) := by
  have hpl : (f.parts.map Part.enc).length = f.parts.length := List.length_map _
  refine Ev.intro fn107 ?_
  refine LWp.sx (gs := []) (hs := [.ice]) rfl ⟨⟨rfl, by show (intsC (pad5 c)).all AV.isCell = true; exact intsC_cells _⟩, trivial⟩ ?_
  refine LWp.ent (Ent.el (l := [(0, lookV f), (3, .pi (intsC (pad5 c))), (4, .nil)]) ⟨rfl, rfl, rfl, trivial⟩) ?_
  refine LWp.sx (gs := []) (hs := []) rfl trivial ?_
  refine LWp.seq (LWp.seq ?_)
  refine LWp.x (gs := []) (hs := []) rfl trivial ?_
  refine LWp.slLen 12 rfl fun hll => ?_
  refine LWp.blockT (fun _ : Unit => True) (fun _ => el [(4, .lin 9 1 ((shapeF f.parts c).map fun s => [Str s]))]) (fun _ => []) (fun _ => []) ?_ ?_
  · refine LWp.loopN (fun x : Nat × Nat × List Wd => x.1 ≤ f.parts.length ∧ x.2.1 + (roomsL (f.parts.drop x.1)).length = c.length ∧ shapeF f.parts c = x.2.2 ++ shapeF (f.parts.drop x.1) (c.drop x.2.1)) (fun x => el [(3, .pi (intsC (pad5 c))), (4, .lin 9 1 (x.2.2.map fun s => [Str s])), (5, I x.2.1), (12, partsV f.parts), (13, I f.parts.length), (14, I x.1)]) (fun _ => []) (fun _ => []) (fun x => f.parts.length - x.1) (0, 0, []) ⟨by omega, by simp [hn], rfl⟩
      (Ent.trans (Ent.nilLin (t := 4) 9 1 rfl) (Ent.el ⟨rfl, rfl, rfl, rfl, by show I _ = I _; rw [hpl], rfl, trivial⟩)) ?_
    rintro ⟨k, q, acc⟩ ⟨hk, hr, hi⟩
    simp only at hk hr hi
    have hal : acc.length ≤ 1000 := by rw [hi, List.length_append] at hb; omega
    have hall : (acc.map fun s => [Str s]).length = acc.length := List.length_map _
    refine LWp.ent (Ent.el (l := [(3, .pi (intsC (pad5 c))), (4, .lin 9 1 (acc.map fun s => [Str s])), (5, I q), (12, partsV f.parts), (13, I f.parts.length), (14, I k)]) ⟨rfl, rfl, rfl, rfl, rfl, rfl, trivial⟩) ?_
    refine LWp.sx (gs := []) (hs := []) rfl trivial ?_
    refine LWp.seq (LWp.ite rfl (fun he => ?_) (fun he => ?_))
    · simp only [decide_eq_true_eq, Int.ofNat_lt] at he
      obtain ⟨p, hx⟩ := ex_get he
      rw [drop_cons hx, roomsL_cons] at hr
      rw [drop_cons hx, shapeF] at hi
      refine LWp.skip ?_
      refine LWp.blockX (fun x : Nat × List Wd => x.1 + (roomsL (f.parts.drop (k + 1))).length = c.length ∧ shapeF f.parts c = x.2 ++ shapeF (f.parts.drop (k + 1)) (c.drop x.1)) (fun x => el [(3, .pi (intsC (pad5 c))), (4, .lin 9 1 (x.2.map fun s => [Str s])), (5, I x.1), (12, partsV f.parts), (13, I f.parts.length), (14, I k)]) (fun _ => []) (fun _ => []) ?_ ?_
      · refine LWp.sx (gs := []) (hs := [.cells p.enc, .lin]) rfl ⟨⟨by omega, by simp [hx]⟩, rfl, ⟨rfl, rfl, rfl, by decide⟩, trivial⟩ ?_
        refine LWp.ent (Ent.freezeLbox (t := 7) rfl) ?_
        have hwl0 : (p.words.map fun s => [Str s]).length = p.words.length := List.length_map _
        refine LWp.seq (LWp.seq ?_)
        refine LWp.x (gs := []) (hs := []) rfl trivial ?_
        refine LWp.ite rfl (fun hq => ?_) (fun hq => LWp.skip ?_)
        · have hq0 : p.words ≠ [] := by
            intro e
            simp [e] at hq
          have hq : ¬ p.roomy = true := by simp [Part.roomy, hq0]
          rw [if_neg hq] at hr hi
          have hwl : acc.length + p.words.length ≤ 1000 := by rw [hi, List.length_append, List.length_append] at hb; omega
          refine LWp.sx (gs := []) (hs := []) rfl ⟨⟨by rw [hall, hwl0]; omega, by rw [hall, hwl0]; omega⟩, trivial⟩ ?_
          exact LWp.exit ⟨(q, acc ++ p.words), ⟨hr, by rw [hi, List.append_assoc]⟩, Ent.el ⟨rfl, by show AV.lin _ _ _ = _; rw [List.map_append], rfl, rfl, rfl, rfl, trivial⟩⟩
        · have hq0 : p.words = [] := by simpa using hq
          have hq : p.roomy = true := by simp [Part.roomy, hq0]
          rw [if_pos hq] at hr hi
          simp only [List.length_cons] at hr
          obtain ⟨m, hg⟩ := ex_get (l := c) (k := q) (by omega)
          rw [drop_cons hg, List.headD_cons, List.tail_cons] at hi
          have hbl : (blanks m).length = m := List.length_replicate
          have hwl : acc.length + m ≤ 1000 := by rw [hi, List.length_append, List.length_append, hbl] at hb; omega
          refine LWp.seq (LWp.ops ?_)
          refine WOps.xn (gs := []) (hs := []) 3 rfl rfl ⟨⟨by omega, by omega⟩, trivial⟩ ?_
          refine WOps.ent (Ent.el (l := [(3, .pi (intsC (pad5 c))), (26, .lin 9 1 (acc.map fun s => [Str s])), (28, .pi (I m :: (intsC (pad5 c)).drop (q + 1))), (5, I q), (12, partsV f.parts), (13, I f.parts.length), (14, I k)]) ⟨rfl, rfl, by
            show AV.pi ((intsC (pad5 c)).drop ((q : Int).toNat * 1)) = _
            rw [Int.toNat_natCast, Nat.mul_one, pad5_get hg], rfl, rfl, rfl, rfl, trivial⟩) ?_
          refine WOps.xn (gs := []) (hs := []) 1 rfl rfl trivial ?_
          refine WOps.cons (Op1.appendM m rfl rfl rfl (by rw [hall]; omega) (by rw [hall]; omega) rfl ?_)
          refine WOps.xd (gs := []) (hs := []) rfl trivial ?_
          refine LWp.x (gs := []) (hs := []) rfl ⟨by omega, trivial⟩ ?_
          refine ⟨(q + 1, acc ++ blanks m), ⟨by simp only; omega, by rw [hi, List.append_assoc]⟩, Ent.el ⟨rfl, ?_, rfl, rfl, rfl, rfl, trivial⟩⟩
          show AV.lin _ _ _ = _
          rw [List.map_append, ← blanks_enc]
      rintro ⟨q', acc'⟩ ⟨h1, h2⟩
      refine LWp.x (gs := []) (hs := []) rfl ⟨by omega, trivial⟩ ?_
      exact ⟨(k + 1, q', acc'), ⟨by simp only; omega, h1, h2⟩, by simp only; omega, Ent.el ⟨rfl, rfl, rfl, rfl, rfl, rfl, trivial⟩⟩
    · simp only [decide_eq_false_iff_not, Int.ofNat_lt] at he
      refine LWp.exit ⟨(), trivial, Ent.el ⟨?_, trivial⟩⟩
      have hn0 : f.parts.drop k = [] := List.drop_eq_nil_of_le (by omega)
      rw [hi, hn0, shapeF, List.append_nil]; rfl
  intro _ _
  refine LWp.sx (gs := []) (hs := []) rfl trivial ?_
  refine LWp.ent (Ent.freezeLin (t := 4) rfl) ?_
  refine LWp.ret (retT (.inr rfl) (.one (.tmp ?_ rfl)))
  rfl
end Go.Px

namespace Go.Px
open Go.Proofs
theorem ways1_ev (s w : Wd) : Ev Try.prog 108 [Str s, Str w] (B (fitB s w)) := by
  refine Ev.intro fn108 ?_
  refine LWp.sx (gs := []) (hs := []) rfl trivial ?_
  by_cases h : s = []
  · subst h
    refine LWp.sx (gs := [(7, true)]) (hs := []) rfl (by simp) ?_
    refine LWp.ret (retT (.inr rfl) (.one (.tmp ?_ rfl)))
    rfl
  · refine LWp.sx (gs := [(7, false)]) (hs := []) rfl (by simp [h]) ?_
    refine LWp.ret (retT (.inr rfl) (.one (.tmp ?_ rfl)))
    show B _ = B _
    have e : (s == w) = decide (s = w) := by rw [Bool.eq_iff_iff]; simp
    simp [fitB, h]
    exact e
theorem equalF_ev (s l : List Wd) (g : Nat) (h : ∀ x y, Ev Try.prog g [Str x, Str y] (B (fitB x y))) : Ev Try.prog 106 [strs s, strs l, .fn (.func g) [] []] (B (fitL s l)) := by
  have hs : (s.map fun s => [Str s]).length = s.length := List.length_map _
  have hl : (l.map fun s => [Str s]).length = l.length := List.length_map _
  refine Ev.intro fn106 ?_
  refine LWp.slLen 0 rfl fun hll => ?_
  refine LWp.sx (gs := []) (hs := []) rfl trivial ?_
  refine LWp.seq (LWp.seq ?_)
  refine LWp.x (gs := []) (hs := []) rfl trivial ?_
  refine LWp.ite rfl (fun hc => ?_) (fun hc => LWp.skip ?_)
  · have hc : s.length ≠ l.length := by
      intro e
      simp [e] at hc
    refine LWp.sx (gs := []) (hs := []) rfl trivial ?_
    refine LWp.ret (retT (.inr rfl) (.one (.tmp ?_ rfl)))
    show B _ = B _
    cases hf : fitL s l with
    | false => rfl
    | true => exact absurd (fitL_len hf) hc
  have hc : s.length = l.length := by simp at hc; omega
  refine LWp.seq (LWp.seq ?_)
  refine LWp.x (gs := []) (hs := []) rfl trivial ?_
  refine LWp.blockT (fun _ : Unit => fitL s l = true) (fun _ => el []) (fun _ => []) (fun _ => []) ?_ ?_
  · refine LWp.loopN (fun k : Nat => k ≤ s.length ∧ fitL s l = fitL (s.drop k) (l.drop k)) (fun k => el [(1, strs l), (2, .fn (.func g) [] []), (15, strs s), (16, I s.length), (17, I k)]) (fun _ => []) (fun _ => []) (fun k => s.length - k) 0 ⟨by omega, rfl⟩
      (Ent.el ⟨rfl, rfl, rfl, by show I _ = I _; rw [hs], rfl, trivial⟩) ?_
    rintro k ⟨hk, hi⟩
    refine LWp.sx (gs := []) (hs := []) rfl trivial ?_
    refine LWp.seq (LWp.ite rfl (fun he => ?_) (fun he => ?_))
    · simp only [decide_eq_true_eq, Int.ofNat_lt] at he
      obtain ⟨x, hx⟩ := ex_get he
      obtain ⟨z, hz⟩ := ex_get (l := l) (k := k) (by omega)
      rw [drop_cons hx, drop_cons hz, fitL] at hi
      refine LWp.skip (LWp.seq (LWp.block ?_))
      refine LWp.sx (gs := []) (hs := [.cells [Str x]]) rfl ⟨⟨by omega, by simp [hx]⟩, trivial⟩ ?_
      refine LWp.sx (gs := []) (hs := [.cells [Str z]]) rfl ⟨⟨by omega, by simp [hz]⟩, trivial⟩ ?_
      refine LWp.seq ?_
      refine LWp.x (gs := []) (hs := [.ret (B (fitB x z))]) rfl ⟨h x z, trivial⟩ ?_
      refine LWp.ite rfl (fun hb => ?_) (fun hb => LWp.skip ?_)
      · have hb : fitB x z = false := by simpa using hb
        refine LWp.sx (gs := []) (hs := []) rfl trivial ?_
        refine LWp.ret (retT (.inr rfl) (.one (.tmp ?_ rfl)))
        show B _ = B _
        rw [hi, hb]; rfl
      · have hb : fitB x z = true := by simpa using hb
        rw [hb, Bool.true_and] at hi
        refine LWp.x (gs := []) (hs := []) rfl ⟨by omega, trivial⟩ ?_
        exact ⟨k + 1, ⟨by omega, hi⟩, by omega, Ent.el ⟨rfl, rfl, rfl, rfl, rfl, trivial⟩⟩
    · simp only [decide_eq_false_iff_not, Int.ofNat_lt] at he
      refine LWp.exit ⟨(), ?_, Ent.el trivial⟩
      rw [hi, List.drop_eq_nil_of_le (by omega), List.drop_eq_nil_of_le (by omega)]; rfl
  · intro _ h0
    refine LWp.sx (gs := []) (hs := []) rfl trivial ?_
    refine LWp.ret (retT (.inr rfl) (.one (.tmp ?_ rfl)))
    show B _ = B _
    rw [h0]
theorem manyW (c1 c2 c3 c4 c5 : Int) (h1 : (Lit.int .i64 c1).wf = true) (h2 : (Lit.int .i64 c2).wf = true) (h3 : (Lit.int .i64 c3).wf = true) (h4 : (Lit.int .i64 c4).wf = true) (h5 : (Lit.int .i64 c5).wf = true) :
    WideKey Try.prog 5 105 (.agg #[.int .i64 c1, .int .i64 c2, .int .i64 c3, .int .i64 c4, .int .i64 c5]) := by
  have e1 : Try.prog.cellsOf 105 = 5 := by kernel_rfl
  have e3 : Try.prog.cellsOf 3 = 1 := by kernel_rfl
  refine ⟨?_, [.int .i64 c1, .int .i64 c2, .int .i64 c3, .int .i64 c4, .int .i64 c5], ?_⟩
  · simp [Value.formed, Try.underlying105, e1]
  · simp [Value.cells, Program.keyLits, Try.underlying105, Try.underlying3, e1, e3, h1, h2, h3, h4, h5, List.range_succ]
/-- '==' of the arrays. -/
theorem op_many {a b : List Int} (ha : a.length = 5) (hb : b.length = 5) (wa : ∀ n ∈ a, (Lit.int .i64 n).wf = true) (wb : ∀ n ∈ b, (Lit.int .i64 n).wf = true) {x y : Operand} {env : Env} {H : Heap} {t : Nat}
    (hx : evO env x = .agg (intsC a)) (hy : evO env y = .agg (intsC b)) :
    ∀ (r : Option Nat) (N : Nat) (D : List Nat), Q1 Try.prog r N (.eqT false 105 x y) (some t) env H D [(t, B (decide (a = b)))] := by
  intro r N D
  obtain ⟨a0, a1, a2, a3, a4, rfl⟩ := five ha
  obtain ⟨b0, b1, b2, b3, b4, rfl⟩ := five hb
  exact Op1.eqT (neg := false) (m := 3) (DD := 5) (by decide) (by kernel_rfl) (by kernel_rfl) (by kernel_rfl) (by kernel_rfl) (by rw [hx]; rfl) (by rw [hy]; rfl)
    (manyW _ _ _ _ _ (wa _ (by simp)) (wa _ (by simp)) (wa _ (by simp)) (wa _ (by simp)) (wa _ (by simp))) (manyW _ _ _ _ _ (wb _ (by simp)) (wb _ (by simp)) (wb _ (by simp)) (wb _ (by simp)) (wb _ (by simp)))
    (decide ([a0, a1, a2, a3, a4] = [b0, b1, b2, b3, b4])) (by rw [decide_eq_true_iff]; simp) ⟨rfl, rfl, rfl⟩
/-- What 'ways' has found among the first ones. -/
abbrev okW (f : Form) (l : List Wd) (dn : List (List Nat)) : List (List Nat) := dn.filter fun m => fitL (shapeF f.parts m) l
def lastP (dn : List (List Nat)) : List Int := match dn.getLast? with | none => [-1, 0, 0, 0, 0] | some c => pad5 c
def waysH (f : Form) (l : List Wd) (b4 b5 b6 : Nat) (dn : List (List Nat)) : Heap :=
  [(b4, .cells 105 (intsC (pad5 ((okW f l dn).headD [])))), (b5, .cells 3 [I (okW f l dn).length]), (b6, .cells 105 (intsC (lastP dn)))]
theorem pad5_len {c : List Nat} (h : c.length ≤ 5) : (pad5 c).length = 5 := by
  unfold pad5
  rw [List.length_append, List.length_map, List.length_replicate]; omega
theorem pad5_wf {c : List Nat} (h : ∀ n ∈ c, n ≤ 3) : ∀ n ∈ pad5 c, (Lit.int .i64 n).wf = true := by
  intro n hn
  unfold pad5 at hn
  rcases List.mem_append.1 hn with hn | hn
  · obtain ⟨m, hm, rfl⟩ := List.mem_map.1 hn
    have := h m hm
    exact wf_i64 (by omega) (by omega)
  · rw [(List.mem_replicate.1 hn).2]
    exact wf_i64 (by decide) (by decide)
theorem pad5_inj {c d : List Nat} (h : c.length = d.length) (e : pad5 c = pad5 d) : c = d := by
  unfold pad5 at e
  have e := (List.append_inj e (by simpa using h)).1
  have : c.map (fun (n : Nat) => (n : Int)) = d.map (fun (n : Nat) => (n : Int)) := e
  exact (List.map_inj_right (fun a b h => by omega)).1 this
/-- Storing what is there. -/
theorem QStep.same {P : Program} {r : Option Nat} {N : Nat} {env : Env} {H : Heap} {D : List Nat} {T n i b : Nat} {T' : TypeId} {x y : Operand} {cs : List AV} {q : AV} (hx : evO env x = .po b 0) (hH : H[i]? = some (b, .cells T' cs)) (hy : evO env y = q)
    (hq : q.isAggOrCell = true) (hqc : cellsAV q = cs) (hql : cs.length = n) (hc : cs.all AV.isCell = true) : QStep P r N ⟨none, none, .store T x y n⟩ env H D [] := by
  show Q1 P r N (.store T x y n) none env H D []
  refine Op1.storeO (i := i) hx hH hy hq (by rw [hqc]; exact hql) (by rw [hqc]; exact hc) (by omega) ⟨rfl, ?_, rfl⟩
  rw [hqc]
  have : setSeg cs 0 cs = cs := by
    unfold setSeg
    simp
  rw [this]
  apply List.ext_getElem?
  intro j
  rw [List.getElem?_set]
  split
  · rename_i e
    subst e
    split
    · exact hH.symm
    · rename_i hlt
      rw [List.getElem?_eq_none (by omega)]
  · rfl
theorem el_nl {env : Env} : ∀ {l : List (Nat × AV)}, ElOK env l → l.all (fun p => !p.2.isLin) = true → ∀ t, el l t = .any ∨ (el l t = env t ∧ (env t).isLin = false)
  | [], _, _, t => .inl rfl
  | (u, p) :: l, h, hl, t => by
    simp only [List.all_cons, Bool.and_eq_true, Bool.not_eq_true'] at hl
    simp only [el]
    cases hb : Nat.beq t u with
    | true =>
      have := Nat.eq_of_beq_eq_true hb
      subst this
      exact .inr ⟨h.1.symm, by rw [h.1]; exact hl.1⟩
    | false => exact el_nl h.2 hl.2 t
theorem lastP_snoc (dn : List (List Nat)) (c : List Nat) : lastP (dn ++ [c]) = pad5 c := by
  unfold lastP
  rw [List.getLast?_append]; rfl
theorem okW_snoc (f : Form) (l : List Wd) (dn : List (List Nat)) (c : List Nat) : okW f l (dn ++ [c]) = okW f l dn ++ (if fitL (shapeF f.parts c) l = true then [c] else []) := by
  unfold okW
  rw [List.filter_append]
  congr 1
  by_cases h : fitL (shapeF f.parts c) l = true
  · rw [if_pos h]; simp [h]
  · rw [if_neg h]; simp [h]
theorem ways_ev (f : Form) (hv : FormV f) (l : List Wd) : Ev Try.prog 72 [lookV f, strs l] (.tup [manyV ((waysF f.parts l).headD []), I (waysF f.parts l).length]) := by
  have hro := rooms_ok hv.parts
  have h5 : (roomsL f.parts).length ≤ 5 := Nat.le_trans (roomsL_len _) hv.p5
  have hC := cnts_size (rs := roomsL f.parts) (fun r hr => ⟨(hro r hr).1, (hro r hr).2.2.2⟩)
  have hC2 : 4 ^ (roomsL f.parts).length ≤ 4 ^ 5 := Nat.pow_le_pow_right (by omega) h5
  have hnd := cnts_nodup (roomsL f.parts)
  have hcn := counts_ev f
  have hwf : waysF f.parts l = okW f l (cnts (roomsL f.parts)) := rfl
  have hcl : ∀ c ∈ cnts (roomsL f.parts), c.length = (roomsL f.parts).length ∧ (∀ m ∈ c, m ≤ 3) ∧ (shapeF f.parts c).length ≤ 15 := fun c hc => shape_small hv hc
  rw [hwf]
  generalize hall : cnts (roomsL f.parts) = all at hC hnd hcl
  refine Ev.intro fn72 ?_
  refine LWp.seq (LWp.ops ?_)
  refine WOps.xn (gs := []) (hs := [.ice, .ice]) 2 rfl rfl ⟨⟨rfl, rfl⟩, ⟨rfl, rfl⟩, trivial⟩ ?_
  refine WOps.cons (Op1.alloc rfl (fun b4 => ?_))
  refine WOps.cons (Op1.alloc rfl (fun b5 => ?_))
  refine WOps.xd (gs := []) (hs := []) rfl trivial ?_
  refine LWp.seq (LWp.ops ?_)
  refine WOps.xn (gs := []) (hs := []) 1 rfl rfl trivial ?_
  refine WOps.cons (Op1.alloc rfl (fun b6 => ?_))
  refine WOps.cons (Op1.storeO (i := 0) rfl rfl rfl rfl rfl rfl (by decide) ?_)
  refine WOps.ent (Ent.trans (Ent.perm (List.reverse_perm _).symm) (Ent.trans (Ent.ofH (H' := waysH f l b4 b5 b6 []) rfl) (Ent.el (l := [(2, .pi [lookV f]), (3, .pi [strs l]), (4, .po b4 0), (5, .po b5 0), (6, .po b6 0)]) ⟨rfl, rfl, rfl, rfl, rfl, trivial⟩))) ?_
  refine WOps.xd (gs := []) (hs := []) rfl trivial ?_
  refine LWp.seq (LWp.seq ?_)
  refine LWp.x (gs := []) (hs := [.ret (.fn (.func 128) [] [.pi [lookV f]])]) rfl ⟨hcn, trivial⟩ ?_
  refine LWp.block ?_
  refine LWp.rfun (X := List (List Nat)) (HS := waysH f l b4 b5 b6) (H0 := []) [] (fun dn => dn = all) (fun dn args dn' => ∃ c rest, dn ++ c :: rest = all ∧ args = [manyV c] ∧ dn' = dn ++ [c])
    (el [(2, .pi [lookV f]), (3, .pi [strs l]), (4, .po b4 0), (5, .po b5 0), (6, .po b6 0)]) rfl (by simp) (el_nl ⟨rfl, rfl, rfl, rfl, rfl, trivial⟩ rfl) (by simp) ?_ ?_ ?_
  · rintro lp dn args dn' ⟨c, rest, hdn, rfl, rfl⟩
    refine ⟨rfl, ?_⟩
    obtain ⟨c1, c2, c3⟩ := hcl c (by rw [← hdn]; simp)
    have hc5 : c.length ≤ 5 := by omega
    have hcp := pad5_len hc5
    have hcw := pad5_wf c2
    have hlp : (lastP dn).length = 5 ∧ (∀ n ∈ lastP dn, (Lit.int .i64 n).wf = true) ∧ pad5 c ≠ lastP dn := by
      unfold lastP
      cases hg : dn.getLast? with
      | none =>
        refine ⟨rfl, ?_, ?_⟩
        · intro n hn
          simp only [List.mem_cons, List.not_mem_nil, or_false] at hn
          rcases hn with rfl | rfl | rfl | rfl | rfl <;> exact wf_i64 (by decide) (by decide)
        · intro e
          have : (-1 : Int) ∈ pad5 c := by rw [e]; simp
          unfold pad5 at this
          rcases List.mem_append.1 this with h | h
          · obtain ⟨m, _, h⟩ := List.mem_map.1 h
            omega
          · have := (List.mem_replicate.1 h).2
            omega
      | some d =>
        have hd : d ∈ dn := List.mem_of_getLast? hg
        obtain ⟨d1, d2, d3⟩ := hcl d (by rw [← hdn]; simp [hd])
        refine ⟨pad5_len (by omega), pad5_wf d2, ?_⟩
        intro e
        have := pad5_inj (by omega) e
        subst this
        rw [← hdn, List.nodup_append] at hnd
        exact hnd.2.2 c hd c (by simp) rfl
    obtain ⟨l1, l2, l3⟩ := hlp
    have hlen : (okW f l dn).length ≤ 1024 := by
      have : (okW f l dn).length ≤ dn.length := List.length_filter_le _ _
      have h2 := congrArg List.length hdn
      rw [List.length_append] at h2
      omega
    have hsh := shape_ev f c c1 hc5 (by omega)
    have heq := equalF_ev (shapeF f.parts c) l 108 (fun x y => ways1_ev x y)
    have hop := fun {x y : Operand} {env : Env} {H : Heap} {t : Nat} (hx : evO env x = .agg (intsC (pad5 c))) (hy : evO env y = .agg (intsC (lastP dn))) => op_many hcp l1 hcw l2 (x := x) (y := y) (env := env) (H := H) (t := t) hx hy
    have hdf : decide (pad5 c = lastP dn) = false := decide_eq_false l3
    rw [hdf] at hop
    have hfst : (pad5 ((okW f l dn).headD [])).length = 5 := by
      cases hg : okW f l dn with
      | nil => rfl
      | cons d ds =>
        have hd : d ∈ dn := by
          have : d ∈ okW f l dn := by rw [hg]; simp
          exact (List.mem_filter.1 this).1
        obtain ⟨d1, d2, d3⟩ := hcl d (by rw [← hdn]; simp [hd])
        exact pad5_len (by simp; omega)
    have hW' : waysH f l b4 b5 b6 (dn ++ [c]) = [(b4, .cells 105 (intsC (pad5 ((okW f l (dn ++ [c])).headD [])))), (b5, .cells 3 [I (okW f l (dn ++ [c])).length]), (b6, .cells 105 (intsC (pad5 c)))] := by
      unfold waysH
      rw [lastP_snoc]
    rw [hW', okW_snoc]
    unfold waysH
    generalize okW f l dn = W at hlen hfst
    generalize lastP dn = lp0 at hop l1
    obtain ⟨c0, c1', c2', c3', c4, hpc⟩ := five hcp
    obtain ⟨p0, p1, p2, p3, p4, rfl⟩ := five l1
    show LWp Try.prog (some lp) 29 _ _ (setPs [11] [.agg (intsC (pad5 c))] _) _ []
    rw [hpc] at hop ⊢
    refine LWp.x (gs := []) (hs := [.lin]) rfl ⟨rfl, ⟨rfl, rfl, rfl, by decide⟩, trivial⟩ ?_
    refine ⟨rfl, LWp.ent (Ent.freezeLbox (t := 7) rfl) ?_⟩
    refine LWp.ent (Ent.el (l := [(2, .pi [lookV f]), (3, .pi [strs l]), (4, .po b4 0), (5, .po b5 0), (6, .po b6 0), (7, .pi (intsC [c0, c1', c2', c3', c4]))]) ⟨rfl, rfl, rfl, rfl, rfl, rfl, trivial⟩) ?_
    refine LWp.block (LWp.seq (LWp.seq ?_))
    refine LWp.x (gs := []) (hs := [.at 2, .op (B false)]) rfl ⟨rfl, hop rfl rfl, trivial⟩ ?_
    refine LWp.ite (b := false) rfl (fun h => by cases h) (fun _ => LWp.skip ?_)
    refine LWp.seq (LWp.ops ?_)
    refine WOps.xn (gs := []) (hs := []) 1 rfl rfl trivial ?_
    refine WOps.cons (Op1.storeO (i := 2) rfl rfl rfl rfl rfl rfl (by show 5 ≤ 5; decide) ?_)
    refine WOps.ent (Ent.ofH (H' := [(b4, .cells 105 (intsC (pad5 (W.headD [])))), (b5, .cells 3 [I W.length]), (b6, .cells 105 (intsC [c0, c1', c2', c3', c4]))]) rfl) ?_
    refine WOps.xd (gs := []) (hs := []) rfl trivial ?_
    refine LWp.seq (LWp.seq ?_)
    generalize shapeF f.parts c = S at hsh heq
    generalize hff : fitL S l = ff at heq
    refine LWp.dd (gs := []) (hs := [.retS [lookV f, manyV c] (strs S), .ret (B ff)]) hmix rfl (by kernel_rfl) ⟨⟨hsh, subL_self (by show [lookV f, AV.agg (intsC [c0, c1', c2', c3', c4])] = [lookV f, manyV c]; rw [← hpc])⟩, heq, trivial⟩ ?_
    refine LWp.ite rfl (fun hb => ?_) (fun hb => LWp.skip ?_)
    · have hb : ff = false := by simpa using hb
      refine LWp.exit ?_
      refine ⟨rfl, ?_⟩
      rw [if_neg (by simp [hb]), List.append_nil]
      exact List.Sublist.refl _
    · have hb : ff = true := by simpa using hb
      rw [if_pos hb]
      refine LWp.seq (LWp.ops ?_)
      refine WOps.xn (gs := []) (hs := [.at 1]) 2 rfl rfl ⟨rfl, by omega, trivial⟩ ?_
      refine WOps.cons (Op1.storeO (i := 1) rfl rfl rfl rfl rfl rfl (by show 1 ≤ 1; decide) ?_)
      refine WOps.ent (Ent.ofH (H' := [(b4, .cells 105 (intsC (pad5 (W.headD [])))), (b5, .cells 3 [I ((W.length : Int) + 1)]), (b6, .cells 105 (intsC [c0, c1', c2', c3', c4]))]) rfl) ?_
      refine WOps.xd (gs := []) (hs := []) rfl trivial ?_
      have e1 : (((W ++ [c]).length : Nat) : Int) = (W.length : Int) + 1 := by simp
      rw [e1]
      refine LWp.seq ?_
      refine LWp.x (gs := []) (hs := [.at 1]) rfl ⟨rfl, trivial⟩ ?_
      refine LWp.ite rfl (fun hb => ?_) (fun hb => LWp.skip ?_)
      · have hb : W = [] := by
          have : (W.length : Int) + 1 = 1 := by simpa using hb
          exact List.eq_nil_of_length_eq_zero (by omega)
        subst hb
        refine LWp.ops ?_
        refine WOps.xn (gs := []) (hs := []) 1 rfl rfl trivial ?_
        refine WOps.cons (Op1.storeO (i := 0) rfl rfl rfl rfl rfl rfl (by show 5 ≤ 5; decide) ?_)
        refine WOps.nil ⟨rfl, ?_⟩
        show List.Sublist [(b4, HObj.cells 105 (intsC (pad5 c))), _, _] _
        rw [hpc]
        exact List.Sublist.refl _
      · have hb : W ≠ [] := by
          intro e
          subst e
          simp at hb
        refine ⟨rfl, ?_⟩
        have e2 : (W ++ [c]).headD [] = W.headD [] := by
          cases W with
          | nil => exact absurd rfl hb
          | cons d ds => rfl
        rw [e2]
        exact List.Sublist.refl _
  · intro lp lo hy
    refine (counts1_ev (fun dn => (lp, lo) :: waysH f l b4 b5 b6 dn) all (.yield lp) f h5 hro hall.symm ?_).mono ?_
    · intro dn c rest hdn
      exact ⟨rfl, hy dn _ _ ⟨c, rest, hdn, rfl, rfl⟩⟩
    · intro r Ho hHo
      exact ⟨all, rfl, hHo⟩
  · rintro dn rD rfl
    have hfst : (pad5 ((okW f l dn).headD [])).length = 5 := by
      cases hg : okW f l dn with
      | nil => rfl
      | cons d ds =>
        have hd : d ∈ dn := by
          have : d ∈ okW f l dn := by rw [hg]; simp
          exact (List.mem_filter.1 this).1
        obtain ⟨d1, d2, d3⟩ := hcl d hd
        exact pad5_len (by simp; omega)
    unfold waysH
    generalize okW f l dn = W at hfst ⊢
    unfold manyV
    obtain ⟨p0, p1, p2, p3, p4, hpp⟩ := five hfst
    rw [hpp]
    refine LWp.seq (LWp.dops hmix (DCh.run (gs := []) (hs := [.at 1, .at 2]) rfl ⟨rfl, rfl, trivial⟩ (DCh.cons [4, 27] (QStep.same (i := 1) rfl rfl rfl rfl rfl rfl rfl) rfl rfl (DCh.cons [5, 28] (QStep.same (i := 2) rfl rfl rfl rfl rfl rfl rfl) rfl rfl DCh.nil))) (by kernel_rfl) (WOps.nil ?_))
    refine LWp.ret ⟨.inr rfl, _, ⟨0, rfl, rfl⟩, .many (by decide) ⟨.cellO (i := 0) (n := some 5) rfl rfl (by kernel_rfl) rfl, .cellO (i := 1) (n := none) rfl rfl (by kernel_rfl) rfl, trivial⟩⟩
end Go.Px

namespace Go.Px
open Go.Proofs
theorem ways_wf {f : Form} (hv : FormV f) (l : List Wd) : (pad5 ((waysF f.parts l).headD [])).length = 5 ∧ (waysF f.parts l).length ≤ 1024 := by
  have hro := rooms_ok hv.parts
  have h5 : (roomsL f.parts).length ≤ 5 := Nat.le_trans (roomsL_len _) hv.p5
  constructor
  · cases hg : waysF f.parts l with
    | nil => rfl
    | cons d ds =>
      have hd : d ∈ waysF f.parts l := by rw [hg]; simp
      obtain ⟨d1, d2, d3⟩ := shape_small hv (List.mem_filter.1 hd).1
      exact pad5_len (by simp; omega)
  · have h1 : (waysF f.parts l).length ≤ (cnts (roomsL f.parts)).length := List.length_filter_le _ _
    have h2 := cnts_size (rs := roomsL f.parts) (fun r hr => ⟨(hro r hr).1, (hro r hr).2.2.2⟩)
    have h3 : 4 ^ (roomsL f.parts).length ≤ 4 ^ 5 := Nat.pow_le_pow_right (by omega) h5
    omega
theorem of_ev (s : Shelf) (hw : s.wf) (l : List Wd) : Ev Try.prog 22 [.agg s.enc, strs l] (.tup [ints (ofR s l).1, I (ofR s l).2]) := by
  have hfl : (s.forms.map Form.enc).length = s.forms.length := List.length_map _
  have hck := check_ev s hw
  have hlt := lettered_ev l
  refine Ev.intro fn22 ?_
  have hV : (checkS s).2.2 = 0 → ShelfV s := fun h => shelf_iff.1 h
  have hR : ofR s l = if thenE (checkS s).2.2 l = 0 then (ofL s.forms l, 0) else ([], thenE (checkS s).2.2 l) := rfl
  rw [hR]
  generalize (checkS s).1 = c1 at hck
  generalize (checkS s).2.1 = c2 at hck
  generalize (checkS s).2.2 = c3 at hck hV
  refine LWp.sx (gs := []) (hs := [.ice]) rfl ⟨⟨rfl, rfl⟩, trivial⟩ ?_
  refine LWp.seq (LWp.seq ?_)
  refine LWp.x (gs := []) (hs := [.ret (.tup [I c1, I c2, I c3])]) rfl ⟨hck, trivial⟩ ?_
  refine LWp.cutT (fun _ : Unit => True) (fun _ => el [(1, strs l), (2, .pi s.enc), (4, .nil), (5, I (thenE c3 l))]) (fun _ => []) (fun _ => []) ?_ ?_
  · refine LWp.seq ?_
    refine LWp.x (gs := []) (hs := []) rfl trivial ?_
    refine LWp.ite rfl (fun h => ?_) (fun h => LWp.skip ?_)
    · have h : c3 = 0 := by simpa using h
      have e : thenE c3 l = letterE l := by unfold thenE; rw [if_pos h]
      rw [e]
      refine LWp.x (gs := []) (hs := [.ret (I (letterE l))]) rfl ⟨hlt, trivial⟩ ?_
      exact ⟨(), trivial, Ent.el ⟨rfl, rfl, rfl, rfl, trivial⟩⟩
    · have h : c3 ≠ 0 := by simpa using h
      have e : thenE c3 l = c3 := by unfold thenE; rw [if_neg h]
      rw [e]
      exact ⟨(), trivial, Ent.el ⟨rfl, rfl, rfl, rfl, trivial⟩⟩
  intro _ _
  have hV2 : thenE c3 l = 0 → ShelfV s := by
    intro h
    by_cases h0 : c3 = 0
    · exact hV h0
    · rw [thenE, if_neg h0] at h; exact absurd h h0
  generalize thenE c3 l = e at hV2
  refine LWp.seq (LWp.seq ?_)
  refine LWp.x (gs := []) (hs := []) rfl trivial ?_
  refine LWp.ite rfl (fun h => ?_) (fun h => LWp.skip ?_)
  · have h : e ≠ 0 := by simpa using h
    refine LWp.sx (gs := []) (hs := []) rfl trivial ?_
    refine LWp.ent (Ent.nilSl (t := 4) 1 rfl) ?_
    refine LWp.ret ?_
    rw [if_neg h]
    exact retT (.inr rfl) (.many (by decide) ⟨.tmp rfl rfl, .tmp rfl rfl, trivial⟩)
  have h : e = 0 := by simpa using h
  rw [if_pos h]
  have V := hV2 h
  have h4 := V.f4
  refine LWp.seq (LWp.seq ?_)
  refine LWp.x (gs := []) (hs := []) rfl trivial ?_
  refine LWp.blockT (fun _ : Unit => True) (fun _ => el [(4, .lin 3 1 ((ofL s.forms l).map fun x => [I x]))]) (fun _ => []) (fun _ => []) ?_ ?_
  · refine LWp.loopN (fun k : Nat => k ≤ s.forms.length) (fun k => el [(1, strs l), (4, .lin 3 1 ((((List.range k).filter fun i => decide (waysF ((s.forms[i]?).elim [] (·.parts)) l ≠ [])).map fun (i : Nat) => (i : Int)).map fun x => [I x])), (24, formsV s.forms), (25, I s.forms.length), (26, I k)]) (fun _ => []) (fun _ => []) (fun k => s.forms.length - k) 0 (by omega)
      (Ent.trans (Ent.nilLin (t := 4) 3 1 rfl) (Ent.el ⟨rfl, rfl, rfl, by show I _ = I _; rw [hfl], rfl, trivial⟩)) ?_
    intro k hk
    refine LWp.sx (gs := []) (hs := []) rfl trivial ?_
    refine LWp.seq (LWp.ite rfl (fun he => ?_) (fun he => ?_))
    · simp only [decide_eq_true_eq, Int.ofNat_lt] at he
      obtain ⟨f, hf⟩ := ex_get he
      have hv := (V.forms f (List.mem_of_getElem? hf)).2
      have hwe := ways_ev f hv l
      obtain ⟨hp5, hwl⟩ := ways_wf hv l
      have hst : ((List.range (k + 1)).filter fun i => decide (waysF ((s.forms[i]?).elim [] (·.parts)) l ≠ [])).map (fun (i : Nat) => (i : Int)) = if waysF f.parts l ≠ [] then ((List.range k).filter fun i => decide (waysF ((s.forms[i]?).elim [] (·.parts)) l ≠ [])).map (fun (i : Nat) => (i : Int)) ++ [(k : Int)] else ((List.range k).filter fun i => decide (waysF ((s.forms[i]?).elim [] (·.parts)) l ≠ [])).map (fun (i : Nat) => (i : Int)) := by
        rw [List.range_succ, List.filter_append, List.map_append]
        by_cases g : waysF f.parts l = []
        · simp [hf, g]
        · simp [hf, g]
      have hle : (((List.range k).filter fun i => decide (waysF ((s.forms[i]?).elim [] (·.parts)) l ≠ [])).map (fun (i : Nat) => (i : Int))).length ≤ 4 := by
        rw [List.length_map]
        have := List.length_filter_le (fun i => decide (waysF ((s.forms[i]?).elim [] (·.parts)) l ≠ [])) (List.range k)
        rw [List.length_range] at this
        omega
      refine LWp.skip ?_
      refine LWp.blockX (fun _ : Unit => True) (fun _ => el [(1, strs l), (4, .lin 3 1 ((((List.range (k + 1)).filter fun i => decide (waysF ((s.forms[i]?).elim [] (·.parts)) l ≠ [])).map fun (i : Nat) => (i : Int)).map fun x => [I x])), (24, formsV s.forms), (25, I s.forms.length), (26, I k)]) (fun _ => []) (fun _ => []) ?_ ?_
      · rw [hst]
        generalize ((List.range k).filter fun i => decide (waysF ((s.forms[i]?).elim [] (·.parts)) l ≠ [])).map (fun (i : Nat) => (i : Int)) = A at hle
        have hal : (A.map fun x => [I x]).length = A.length := List.length_map _
        generalize hW : waysF f.parts l = W at hwe hp5 hwl
        generalize hM : pad5 (W.headD []) = M at hp5
        unfold manyV at hwe
        rw [hM] at hwe
        refine LWp.sx (gs := []) (hs := [.cells f.enc, .lin]) rfl ⟨⟨by omega, by simp [hf]⟩, rfl, ⟨rfl, rfl, rfl, by decide⟩, trivial⟩ ?_
        refine LWp.ent (Ent.freezeLbox (t := 7) rfl) ?_
        have hmc : (intsC M).length = 5 := by rw [List.length_map]; exact hp5
        refine LWp.sx (gs := []) (hs := [.ret (lookV f), .ret (.tup [.agg (intsC M), I W.length]), .lin]) rfl ⟨look_ev f hv.p5, hwe, rfl, ⟨rfl, hmc, intsC_cells M, by show 5 ≤ 5; decide⟩, trivial⟩ ?_
        refine LWp.ent (Ent.el (l := [(1, strs l), (4, .lin 3 1 (A.map fun x => [I x])), (6, I k), (9, I W.length), (24, formsV s.forms), (25, I s.forms.length), (26, I k)]) ⟨rfl, rfl, rfl, rfl, rfl, rfl, rfl, trivial⟩) ?_
        refine LWp.sx (gs := []) (hs := []) rfl trivial ?_
        refine LWp.ite rfl (fun hb => ?_) (fun hb => LWp.skip ?_)
        · have hb : W ≠ [] := by
            intro e
            subst e
            simp at hb
          rw [if_pos hb]
          refine LWp.x (gs := []) (hs := [.ice]) rfl ⟨rfl, ⟨by show (_ + 1) * 8 ≤ _; rw [hal]; omega, by show _ + 1 ≤ _; rw [hal]; omega⟩, trivial⟩ ?_
          exact ⟨(), trivial, Ent.el ⟨rfl, by show AV.lin _ _ _ = _; rw [List.map_append]; rfl, rfl, rfl, rfl, trivial⟩⟩
        · have hb : ¬ W ≠ [] := by
            intro e
            exact e (by simpa using hb)
          rw [if_neg hb]
          exact ⟨(), trivial, Ent.el ⟨rfl, rfl, rfl, rfl, rfl, trivial⟩⟩
      intro _ _
      refine LWp.x (gs := []) (hs := []) rfl ⟨by omega, trivial⟩ ?_
      exact ⟨k + 1, by omega, by omega, Ent.el ⟨rfl, rfl, rfl, rfl, rfl, trivial⟩⟩
    · simp only [decide_eq_false_iff_not, Int.ofNat_lt] at he
      refine LWp.exit ⟨(), trivial, Ent.el ⟨?_, trivial⟩⟩
      rw [show k = s.forms.length by omega]; rfl
  intro _ _
  refine LWp.sx (gs := []) (hs := []) rfl trivial ?_
  refine LWp.ent (Ent.freezeLin (t := 4) rfl) ?_
  exact LWp.ret (retT (.inr rfl) (.many (by decide) ⟨.tmp rfl rfl, .tmp rfl rfl, trivial⟩))
end Go.Px

namespace Go.Px
open Go.Proofs
theorem fills_ev (s : Shelf) (hw : s.wf) (n : Int) (l : List Wd) : Ev Try.prog 25 [.agg s.enc, I n, strs l] (.tup [fillsV (fillsR s n l).1, I (fillsR s n l).2.1, I (fillsR s n l).2.2]) := by
  have hen := enter_ev s hw n
  have hlt := lettered_ev l
  have res : ∀ {env : Env} {H : Heap} {x : List (List Wd)} {q r : Int}, fillsR s n l = (x, q, r) → env 6 = fillsV x → env 7 = I q → env 8 = I r → retP Try.prog [.tmp 6, .tmp 7, .tmp 8] (.tup [fillsV (fillsR s n l).1, I (fillsR s n l).2.1, I (fillsR s n l).2.2]) .ret env H [] := by
    intro env H p q r h h2 h3 h4
    rw [h]
    exact retT (.inr rfl) (.many (by decide) ⟨.tmp h2 rfl, .tmp h3 rfl, .tmp h4 rfl, trivial⟩)
  have hE : ∀ e, formI s n = e → thenE e l = if e = 0 then letterE l else e := fun e _ => rfl
  refine Ev.intro fn25 ?_
  refine LWp.sx (gs := []) (hs := [.ice]) rfl ⟨⟨rfl, rfl⟩, trivial⟩ ?_
  refine LWp.scope ?_
  refine LWp.cutX (fun _ : Unit => True) (fun _ => el [(2, strs l), (6, .nil), (8, I (formI s n)), (9, enterV s n)]) (fun _ => []) (fun _ => []) ?_ ?_
  · by_cases h : formI s n = 0
    · have hV : enterV s n = lookV (formOf s n) := by unfold enterV; rw [if_pos h]
      rw [hV] at hen ⊢
      refine LWp.x (gs := []) (hs := [.ret (.tup [lookV (formOf s n), I (formI s n)])]) rfl ⟨hen, trivial⟩ ?_
      exact ⟨(), trivial, Ent.el ⟨rfl, rfl, rfl, rfl, trivial⟩⟩
    · have hV : enterV s n = .v (.pointer none) := by unfold enterV; rw [if_neg h]
      rw [hV] at hen ⊢
      refine LWp.x (gs := []) (hs := [.ret (.tup [.v (.pointer none), I (formI s n)])]) rfl ⟨hen, trivial⟩ ?_
      exact ⟨(), trivial, Ent.el ⟨rfl, rfl, rfl, rfl, trivial⟩⟩
  intro _ _
  refine LWp.cutX (fun _ : Unit => True) (fun _ => el [(2, strs l), (6, .nil), (8, I (thenE (formI s n) l)), (9, enterV s n)]) (fun _ => []) (fun _ => []) ?_ ?_
  · refine LWp.seq ?_
    refine LWp.x (gs := []) (hs := []) rfl trivial ?_
    refine LWp.ite rfl (fun h => ?_) (fun h => LWp.skip ?_)
    · have h : formI s n = 0 := by simpa using h
      have e : thenE (formI s n) l = letterE l := by unfold thenE; rw [if_pos h]
      rw [e]
      refine LWp.x (gs := []) (hs := [.ret (I (letterE l))]) rfl ⟨hlt, trivial⟩ ?_
      exact ⟨(), trivial, Ent.el ⟨rfl, rfl, rfl, rfl, trivial⟩⟩
    · have h : formI s n ≠ 0 := by simpa using h
      have e : thenE (formI s n) l = formI s n := by unfold thenE; rw [if_neg h]
      rw [e]
      exact ⟨(), trivial, Ent.el ⟨rfl, rfl, rfl, rfl, trivial⟩⟩
  intro _ _
  refine LWp.seq (LWp.seq ?_)
  refine LWp.x (gs := []) (hs := []) rfl trivial ?_
  refine LWp.ite rfl (fun h => ?_) (fun h => LWp.skip ?_)
  · have h : thenE (formI s n) l ≠ 0 := by simpa using h
    refine LWp.sx (gs := []) (hs := []) rfl trivial ?_
    refine LWp.ent (Ent.nilSl (t := 6) 1 rfl) ?_
    exact LWp.ret (res (x := []) (q := 0) (by rw [fillsR, if_neg h]) rfl rfl rfl)
  have h : thenE (formI s n) l = 0 := by simpa using h
  have h0 : formI s n = 0 := by
    by_cases g : formI s n = 0
    · exact g
    · rw [thenE, if_neg g] at h; exact absurd h g
  have hlE : letterE l = 0 := by rw [thenE, if_pos h0] at h; exact h
  have h15 := (letter_zero.1 hlE).1
  obtain ⟨_, V, n0, n1, n2, f, hf, hv, hpo⟩ := formI_iff h0
  have hfo : formOf s n = f := by unfold formOf; rw [hf]
  have hV : enterV s n = lookV f := by unfold enterV; rw [if_pos h0, hfo]
  have hFi : fillsR s n l = match waysF f.parts l with
    | [] => ([], 0, 9)
    | m :: ms => (filledF f.parts m l, ((m :: ms).length : Nat), 0) := by
    rw [fillsR, if_pos h, hpo]
    cases waysF f.parts l <;> rfl
  rw [hV]
  have hwe := ways_ev f hv l
  obtain ⟨hq5, hwl⟩ := ways_wf hv l
  have hmc : (intsC (pad5 ((waysF f.parts l).headD []))).length = 5 := by rw [List.length_map]; exact hq5
  refine LWp.sx (gs := []) (hs := [.ret (.tup [manyV ((waysF f.parts l).headD []), I (waysF f.parts l).length]), .lin]) rfl ⟨hwe, rfl, ⟨rfl, hmc, intsC_cells _, by show 5 ≤ 5; decide⟩, trivial⟩ ?_
  refine LWp.seq (LWp.seq ?_)
  refine LWp.x (gs := []) (hs := []) rfl trivial ?_
  cases hW : waysF f.parts l with
  | nil =>
    rw [hW] at hFi
    refine LWp.ite (b := true) rfl (fun _ => ?_) (fun h => by cases h)
    refine LWp.sx (gs := []) (hs := []) rfl trivial ?_
    refine LWp.ent (Ent.nilSl (t := 6) 1 rfl) ?_
    exact LWp.ret (res (x := []) (q := 0) (r := 9) hFi rfl rfl rfl)
  | cons c cs =>
    rw [hW] at hFi hmc
    have hcm : c ∈ waysF f.parts l := by rw [hW]; simp
    obtain ⟨hc1, hc2⟩ := List.mem_filter.1 hcm
    obtain ⟨c1, c2, c3⟩ := shape_small hv hc1
    have hsl : (shapeF f.parts c).length = l.length := fitL_len hc2
    have hp5 := hv.p5
    have hrl := roomsL_len f.parts
    refine LWp.ite rfl (fun h => ?_) (fun _ => LWp.skip ?_)
    · simp at h
      omega
    have hset : setSeg (List.map AV.v [Value.int .i64 0, Value.int .i64 0, Value.int .i64 0, Value.int .i64 0, Value.int .i64 0]) 0 (intsC (pad5 c)) = intsC (pad5 c) := by
      unfold setSeg
      simp only [List.headD_cons] at hmc
      rw [hmc]
      simp
    refine LWp.ent (Ent.el (l := [(2, strs l), (6, .nil), (7, I ((c :: cs).length : Nat)), (9, lookV f), (10, .lbox 105 (intsC (pad5 c)))]) ⟨rfl, rfl, rfl, rfl, by show AV.lbox _ _ = _; rw [← hset]; rfl, trivial⟩) ?_
    refine LWp.ent (Ent.freezeLbox (t := 10) rfl) ?_
    refine LWp.ent (Ent.nilLin (t := 6) 29 1 rfl) ?_
    refine LWp.sx (gs := []) (hs := []) rfl trivial ?_
    refine LWp.seq (LWp.label (LWp.seq (LWp.seq ?_)))
    refine LWp.x (gs := []) (hs := []) rfl trivial ?_
    refine LWp.slLen 40 rfl fun hll => ?_
    have hpl : (f.parts.map Part.enc).length = f.parts.length := List.length_map _
    refine LWp.blockT (fun _ : Unit => True) (fun _ => el [(6, .lin 29 1 ((filledF f.parts c l).map fun s => [strs s])), (7, I ((c :: cs).length : Nat))]) (fun _ => []) (fun _ => []) ?_ ?_
    · refine LWp.loopN (fun x : Nat × Nat × List (List Wd) => x.1 ≤ f.parts.length ∧ x.2.2.length ≤ x.1 ∧ x.2.2.length + (roomsL (f.parts.drop x.1)).length = c.length ∧ x.2.1 + (shapeF (f.parts.drop x.1) (c.drop x.2.2.length)).length = l.length ∧ filledF f.parts c l = x.2.2 ++ filledF (f.parts.drop x.1) (c.drop x.2.2.length) (l.drop x.2.1))
        (fun x => el [(2, strs l), (6, .lin 29 1 (x.2.2.map fun s => [strs s])), (7, I ((c :: cs).length : Nat)), (10, .pi (intsC (pad5 c))), (11, I x.2.1), (40, partsV f.parts), (41, I f.parts.length), (42, I x.1)]) (fun _ => []) (fun _ => []) (fun x => f.parts.length - x.1) (0, 0, []) ⟨by omega, by simp, by simp [c1], by simp [hsl], rfl⟩
        (Ent.el ⟨rfl, rfl, rfl, rfl, rfl, rfl, by show I _ = I _; rw [hpl], rfl, trivial⟩) ?_
      rintro ⟨k, a, out⟩ ⟨hk, ho, hr, ha, hi⟩
      simp only at hk ho hr ha hi
      refine LWp.ent (Ent.el (l := [(2, strs l), (6, .lin 29 1 (out.map fun s => [strs s])), (7, I ((c :: cs).length : Nat)), (10, .pi (intsC (pad5 c))), (11, I a), (40, partsV f.parts), (41, I f.parts.length), (42, I k)]) ⟨rfl, rfl, rfl, rfl, rfl, rfl, rfl, rfl, trivial⟩) ?_
      refine LWp.sx (gs := []) (hs := []) rfl trivial ?_
      refine LWp.seq (LWp.ite rfl (fun he => ?_) (fun he => ?_))
      · simp only [decide_eq_true_eq, Int.ofNat_lt] at he
        obtain ⟨p, hx⟩ := ex_get he
        rw [drop_cons hx, roomsL_cons] at hr
        rw [drop_cons hx, shapeF] at ha
        rw [drop_cons hx, filledF] at hi
        refine LWp.skip ?_
        refine LWp.blockX (fun x : Nat × List (List Wd) => x.2.length ≤ k + 1 ∧ x.2.length + (roomsL (f.parts.drop (k + 1))).length = c.length ∧ x.1 + (shapeF (f.parts.drop (k + 1)) (c.drop x.2.length)).length = l.length ∧ filledF f.parts c l = x.2 ++ filledF (f.parts.drop (k + 1)) (c.drop x.2.length) (l.drop x.1))
          (fun x => el [(2, strs l), (6, .lin 29 1 (x.2.map fun s => [strs s])), (7, I ((c :: cs).length : Nat)), (10, .pi (intsC (pad5 c))), (11, I x.1), (40, partsV f.parts), (41, I f.parts.length), (42, I k)]) (fun _ => []) (fun _ => []) ?_ ?_
        · refine LWp.sx (gs := []) (hs := [.cells p.enc, .lin]) rfl ⟨⟨by omega, by simp [hx]⟩, rfl, ⟨rfl, rfl, rfl, by decide⟩, trivial⟩ ?_
          refine LWp.ent (Ent.freezeLbox (t := 13) rfl) ?_
          have hwl0 : (p.words.map fun s => [Str s]).length = p.words.length := List.length_map _
          refine LWp.seq (LWp.seq ?_)
          refine LWp.x (gs := []) (hs := []) rfl trivial ?_
          refine LWp.ite rfl (fun hq => ?_) (fun hq => LWp.skip ?_)
          · have hq0 : p.words ≠ [] := by
              intro e
              simp [e] at hq
            have hq : ¬ p.roomy = true := by simp [Part.roomy, hq0]
            rw [if_neg hq] at hr hi ha
            rw [List.length_append] at ha
            refine LWp.sx (gs := []) (hs := []) rfl (by exact ⟨⟨by rw [hwl0]; omega, by rw [hwl0]; omega⟩, trivial⟩) ?_
            refine LWp.exit ⟨(a + p.words.length, out), ⟨by simp only; omega, hr, by simp only; omega, by rw [hi, List.drop_drop]⟩, Ent.el ⟨rfl, rfl, rfl, rfl, ?_, rfl, rfl, rfl, trivial⟩⟩
            show I _ = I _
            rw [hwl0]
            simp
          · have hq0 : p.words = [] := by simpa using hq
            have hq : p.roomy = true := by simp [Part.roomy, hq0]
            rw [if_pos hq] at hr hi ha
            simp only [List.length_cons] at hr
            obtain ⟨m, hm⟩ := ex_get (l := c) (k := out.length) (by omega)
            rw [drop_cons hm, List.headD_cons, List.tail_cons] at ha hi
            simp only [blanks, List.length_append, List.length_replicate] at ha
            have hol : (out.map fun s => [strs s]).length = out.length := List.length_map _
            refine LWp.peek 6 rfl (fun ad cap => ?_)
            refine LWp.seq (LWp.ops ?_)
            refine WOps.xn (gs := []) (hs := []) 3 rfl rfl ⟨⟨by rw [hol]; omega, by rw [hol]; omega⟩, trivial⟩ ?_
            refine WOps.ent (Ent.el (l := [(2, strs l), (6, .linV 29 1 (out.map fun s => [strs s]) ad cap), (7, I ((c :: cs).length : Nat)), (57, .pi (I m :: (intsC (pad5 c)).drop (out.length + 1))), (10, .pi (intsC (pad5 c))), (11, I a), (40, partsV f.parts), (41, I f.parts.length), (42, I k)]) ⟨rfl, rfl, rfl, by
              show AV.pi ((intsC (pad5 c)).drop (((out.map fun s => [strs s]).length : Int).toNat * 1)) = _
              rw [Int.toNat_natCast, Nat.mul_one, hol, pad5_get hm], rfl, rfl, rfl, rfl, rfl, trivial⟩) ?_
            refine WOps.xn (gs := []) (hs := []) 1 rfl rfl trivial ?_
            refine WOps.cons (Op1.mslice m rfl rfl rfl rfl (by omega) (by omega) rfl (fun g => ?_))
            refine WOps.xd (gs := []) (hs := []) rfl trivial ?_
            refine LWp.seq (LWp.ops ?_)
            have hll2 : (l.map fun s => [Str s]).length = l.length := List.length_map _
            refine WOps.xn (gs := []) (hs := []) 5 rfl rfl (by exact ⟨⟨⟨by omega, trivial⟩, by simp only [Option.getD_some, Option.getD_none]; omega, by simp⟩, trivial⟩) ?_
            have hys : segE (l.map fun s => [Str s]) (some (a : Int).toNat) none = (l.drop a).map fun s => [Str s] := by
              unfold segE
              rw [Int.toNat_natCast, List.map_drop]
            refine WOps.cons (Op1.copyA (i := 0) (es := List.replicate m ([Value.string ⟨#[]⟩].map AV.v)) (ys := (l.drop a).map fun s => [Str s]) rfl rfl (by show AV.sl 1 _ = _; rw [← hys]) ?_)
            have hmn : min ((l.drop a).map fun s => [Str s]).length (List.replicate m ([Value.string ⟨#[]⟩].map AV.v)).length = m := by
              rw [List.length_map, List.length_drop, List.length_replicate]; omega
            rw [hmn]
            have hnew : ((l.drop a).map fun s => [Str s]).take m ++ (List.replicate m ([Value.string ⟨#[]⟩].map AV.v)).drop m = ((l.drop a).take m).map fun s => [Str s] := by
              have h0 : (List.replicate m ([Value.string ⟨#[]⟩].map AV.v)).drop m = [] := List.drop_eq_nil_of_le (by simp)
              rw [h0, List.append_nil, List.map_take]
            rw [hnew]
            have hrep : (List.replicate m ([Value.string ⟨#[]⟩].map AV.v)).length = (((l.drop a).take m).map fun s => [Str s]).length := by
              simp; omega
            refine WOps.xd (gs := []) (hs := []) rfl ⟨⟨by omega, by omega⟩, trivial⟩ ?_
            refine LWp.ent (Ent.unshare (i := 0) (t := 14) (es := ((l.drop a).take m).map fun s => [Str s]) (by rw [← hrep]; rfl) rfl) ?_
            refine LWp.ent (Ent.freezeLin (t := 14) rfl) ?_
            refine LWp.x (gs := []) (hs := [.ice, .own 6]) rfl ⟨rfl, ⟨⟨rfl, rfl, rfl⟩, by show ((out.map fun s => [strs s]).length + 1) * 24 ≤ _; rw [hol]; omega, by show (out.map fun s => [strs s]).length + 1 ≤ _; rw [hol]; omega⟩, trivial⟩ ?_
            refine ⟨(a + m, out ++ [(l.drop a).take m]), ⟨by simp; omega, by simp; omega, by simp; omega, by rw [hi]; simp [List.drop_drop]⟩, Ent.el ⟨rfl, ?_, rfl, rfl, rfl, rfl, rfl, rfl, trivial⟩⟩
            show AV.lin _ _ _ = _
            rw [List.map_append]
            rfl
        rintro ⟨a', out'⟩ ⟨g1, g2, g3, g4⟩
        refine LWp.x (gs := []) (hs := []) rfl ⟨by omega, trivial⟩ ?_
        exact ⟨(k + 1, a', out'), ⟨by simp only; omega, g1, g2, g3, g4⟩, by simp only; omega, Ent.el ⟨rfl, rfl, rfl, rfl, rfl, rfl, rfl, rfl, trivial⟩⟩
      · simp only [decide_eq_false_iff_not, Int.ofNat_lt] at he
        refine LWp.exit ⟨(), trivial, Ent.el ⟨?_, rfl, trivial⟩⟩
        have hn0 : f.parts.drop k = [] := List.drop_eq_nil_of_le (by omega)
        rw [hi, hn0, filledF, List.append_nil]; rfl
    intro _ _
    refine LWp.sx (gs := []) (hs := []) rfl trivial ?_
    refine LWp.ent (Ent.freezeLin (t := 6) rfl) ?_
    exact LWp.ret (res (x := filledF f.parts c l) (q := ((c :: cs).length : Nat)) (r := 0) hFi rfl rfl rfl)
end Go.Px

namespace Go.Px
open Go.Proofs
theorem extract_bytes (t : List UInt8) (a b : Nat) : ByteArray.extract ⟨t.toArray⟩ a b = ⟨((t.take b).drop a).toArray⟩ := by
  apply ByteArray.ext
  rw [ByteArray.data_extract, List.extract_toArray]
  congr 1
  rw [List.extract_eq_drop_take', List.drop_take]
theorem strX (t : List UInt8) (a b : Nat) : AV.v (.string (ByteArray.extract ⟨t.toArray⟩ a b)) = Str ((t.take b).drop a) := congrArg (fun s => AV.v (.string s)) (extract_bytes t a b)
theorem splitF_sep {c : UInt8} : ∀ {s : List UInt8} {t : List UInt8}, (∀ x ∈ s, x ≠ c) → splitF c (s ++ c :: t) = s :: splitF c t
  | [], t, _ => by simp [splitF]
  | x :: s, t, h => by
    simp only [List.cons_append, splitF]
    rw [if_neg (h x (by simp)), splitF_sep (fun y hy => h y (by simp [hy]))]
theorem splitF_one {c : UInt8} : ∀ {s : List UInt8}, (∀ x ∈ s, x ≠ c) → splitF c s = [s]
  | [], _ => by simp [splitF]
  | x :: s, h => by
    simp only [splitF]
    rw [if_neg (h x (by simp)), splitF_one (fun y hy => h y (by simp [hy]))]
theorem u8_ne {a b : UInt8} : ((a.toNat : Int) == (b.toNat : Int)) = decide (a = b) := by
  rw [Bool.eq_iff_iff]
  simp only [beq_iff_eq, decide_eq_true_eq]
  constructor
  · intro h; exact UInt8.toNat_inj.1 (by omega)
  · intro h; rw [h]
theorem rsplit_ev (t : List UInt8) (c : UInt8) (ht : t.length ≤ 1000000) : Ev Try.prog 49 [Str t, U c.toNat] (strs (splitF c t)) := by
  have hss : (ByteArray.mk t.toArray).size = t.length := rfl
  refine Ev.intro fn49 ?_
  refine LWp.sx (gs := []) (hs := []) rfl trivial ?_
  refine LWp.sx (gs := []) (hs := []) rfl trivial ?_
  refine LWp.sx (gs := []) (hs := []) rfl trivial ?_
  refine LWp.seq (LWp.seq ?_)
  refine LWp.x (gs := []) (hs := []) rfl trivial ?_
  refine LWp.blockT (fun x : List Wd × Nat => x.2 ≤ t.length ∧ x.1.length ≤ t.length ∧ splitF c t = x.1 ++ [t.drop x.2]) (fun x => el [(0, Str t), (5, .lin 9 1 (x.1.map fun s => [Str s])), (6, I x.2)]) (fun _ => []) (fun _ => []) ?_ ?_
  · refine LWp.loopN (fun x : Nat × List Wd × Nat => x.1 ≤ t.length ∧ x.2.2 ≤ x.1 ∧ x.2.1.length ≤ x.1 ∧ splitF c t = x.2.1 ++ splitF c (t.drop x.2.2) ∧ ∀ y ∈ (t.take x.1).drop x.2.2, y ≠ c) (fun x => el [(0, Str t), (1, U c.toNat), (5, .lin 9 1 (x.2.1.map fun s => [Str s])), (6, I x.2.2), (7, I x.1)]) (fun _ => []) (fun _ => []) (fun x => t.length - x.1) (0, [], 0) ⟨by omega, by simp, by simp, rfl, by simp⟩
      (Ent.trans (Ent.nilLin (t := 5) 9 1 rfl) (Ent.el ⟨rfl, rfl, rfl, rfl, rfl, trivial⟩)) ?_
    rintro ⟨i, out, b⟩ ⟨hi, hb, ho, hsp, hno⟩
    simp only at hi hb ho hsp hno
    have hol : (out.map fun s => [Str s]).length = out.length := List.length_map _
    refine LWp.ent (Ent.el (l := [(0, Str t), (1, U c.toNat), (5, .lin 9 1 (out.map fun s => [Str s])), (6, I b), (7, I i)]) ⟨rfl, rfl, rfl, rfl, rfl, trivial⟩) ?_
    refine LWp.seq (LWp.seq ?_)
    refine LWp.x (gs := []) (hs := []) rfl trivial ?_
    refine LWp.ite rfl (fun he => ?_) (fun he => ?_)
    · have he : i < t.length := by simp only [decide_eq_true_eq, Int.ofNat_lt] at he; exact he
      obtain ⟨x, hx⟩ := ex_get he
      have htk : (t.take (i + 1)).drop b = (t.take i).drop b ++ [x] := by
        rw [take_snoc hx, List.drop_append_of_le_length (by simp; omega)]
      refine LWp.skip (LWp.seq (LWp.block ?_))
      refine LWp.seq ?_
      refine LWp.x (gs := []) (hs := [.byte x]) rfl ⟨⟨by omega, by simpa using hx⟩, trivial⟩ ?_
      refine LWp.ite rfl (fun hq => ?_) (fun hq => LWp.skip ?_)
      · have hq : x = c := by
          have hq : ((x.toNat : Int) == (c.toNat : Int)) = true := hq
          rw [u8_ne] at hq
          exact of_decide_eq_true hq
        subst hq
        have hdr : t.drop b = (t.take i).drop b ++ x :: t.drop (i + 1) := by
          have h1 := List.take_append_drop i t
          have h2 := congrArg (List.drop b) h1
          rw [List.drop_append_of_le_length (by simp; omega), drop_cons hx] at h2
          exact h2.symm
        rw [hdr, splitF_sep hno] at hsp
        refine LWp.sx (gs := []) (hs := [.ice]) rfl (by exact ⟨⟨⟨by omega, by omega⟩, by simp only [Option.getD_some]; omega, by simp only [Option.getD_some]; omega⟩, rfl, ⟨by show (_ + 1) * 16 ≤ _; rw [hol]; omega, by show _ + 1 ≤ _; rw [hol]; omega⟩, trivial⟩) ?_
        refine LWp.x (gs := []) (hs := []) rfl ⟨by omega, trivial⟩ ?_
        refine LWp.x (gs := []) (hs := []) rfl ⟨by omega, trivial⟩ ?_
        refine ⟨(i + 1, out ++ [(t.take i).drop b], i + 1), ⟨by simp only; omega, by simp only; omega, by simp; omega, by rw [hsp]; simp, by simp⟩, by simp only; omega, Ent.el ⟨rfl, rfl, ?_, rfl, rfl, trivial⟩⟩
        show AV.lin _ _ _ = _
        rw [List.map_append]
        show AV.lin 9 1 (_ ++ [[AV.v (.string (ByteArray.extract ⟨t.toArray⟩ _ _))]]) = _
        rw [strX]
        simp only [Option.getD_some, Int.toNat_natCast]
        rfl
      · have hq : x ≠ c := by
          have hq : ((x.toNat : Int) == (c.toNat : Int)) = false := hq
          rw [u8_ne] at hq
          exact of_decide_eq_false hq
        refine LWp.x (gs := []) (hs := []) rfl ⟨by omega, trivial⟩ ?_
        refine ⟨(i + 1, out, b), ⟨by simp only; omega, by simp only; omega, by simp only; omega, hsp, ?_⟩, by simp only; omega, Ent.el ⟨rfl, rfl, rfl, rfl, rfl, trivial⟩⟩
        intro y hy
        rw [htk] at hy
        rcases List.mem_append.1 hy with hy | hy
        · exact hno y hy
        · rw [List.mem_singleton] at hy; rw [hy]; exact hq
    · have he : ¬ i < t.length := by simp only [decide_eq_false_iff_not, Int.ofNat_lt] at he; exact he
      rw [List.take_of_length_le (by omega)] at hno
      rw [splitF_one hno] at hsp
      exact LWp.exit ⟨(out, b), ⟨by simp only; omega, by simp only; omega, hsp⟩, Ent.el ⟨rfl, rfl, rfl, trivial⟩⟩
  · rintro ⟨out, b⟩ ⟨hb, ho, hsp⟩
    simp only at hb ho hsp
    have hol : (out.map fun s => [Str s]).length = out.length := List.length_map _
    refine LWp.sx (gs := []) (hs := [.ice]) rfl (by exact ⟨⟨⟨by omega, trivial⟩, by simp only [Option.getD_some, Option.getD_none]; omega, by simp⟩, rfl, ⟨by show (_ + 1) * 16 ≤ _; rw [hol]; omega, by show _ + 1 ≤ _; rw [hol]; omega⟩, trivial⟩) ?_
    refine LWp.ent (Ent.freezeLin (t := 4) rfl) ?_
    refine LWp.ret (retT (.inr rfl) (.one (.tmp ?_ rfl)))
    show AV.sl 1 _ = _
    rw [hsp, strs, List.map_append]
    show AV.sl 1 (_ ++ [[AV.v (.string (ByteArray.extract ⟨t.toArray⟩ _ _))]]) = _
    rw [strX]
    simp only [Option.getD_some, Option.getD_none, Int.toNat_natCast, hss]
    rw [List.take_of_length_le (by omega)]
    rfl
theorem thenE_shelf {s : Shelf} {l : List Wd} (h : thenE (checkS s).2.2 l = 0) : ShelfV s ∧ letterE l = 0 := by
  by_cases h0 : (checkS s).2.2 = 0
  · rw [thenE, if_pos h0] at h
    exact ⟨shelf_iff.1 h0, h⟩
  · rw [thenE, if_neg h0] at h; exact absurd h h0
theorem write_ev2 (s : Shelf) (hw : s.wf) (l : List Wd) : Ev Try.prog 28 [.agg s.enc, strs l] (.tup [Str (writeR s l).1, I (writeR s l).2]) := by
  have hck := check_ev s hw
  have hlt := lettered_ev l
  have hV := @thenE_shelf s l
  have hR : writeR s l = if thenE (checkS s).2.2 l = 0 then (textF s.w.toNat l, 0) else ([], thenE (checkS s).2.2 l) := rfl
  rw [hR]
  refine Ev.intro fn28 ?_
  generalize (checkS s).1 = c1 at hck
  generalize (checkS s).2.1 = c2 at hck
  generalize (checkS s).2.2 = c3 at hck hV
  refine LWp.sx (gs := []) (hs := [.ice]) rfl ⟨⟨rfl, rfl⟩, trivial⟩ ?_
  refine LWp.sx (gs := []) (hs := [.ret (.tup [I c1, I c2, I c3])]) rfl ⟨hck, trivial⟩ ?_
  refine LWp.cutX (fun _ : Unit => True) (fun _ => el [(1, strs l), (2, .pi s.enc), (8, I (thenE c3 l))]) (fun _ => []) (fun _ => []) ?_ ?_
  · refine LWp.seq ?_
    refine LWp.x (gs := []) (hs := []) rfl trivial ?_
    refine LWp.ite rfl (fun h => ?_) (fun h => LWp.skip ?_)
    · have h : c3 = 0 := by simpa using h
      have e : thenE c3 l = letterE l := by unfold thenE; rw [if_pos h]
      rw [e]
      refine LWp.x (gs := []) (hs := [.ret (I (letterE l))]) rfl ⟨hlt, trivial⟩ ?_
      exact ⟨(), trivial, Ent.el ⟨rfl, rfl, rfl, trivial⟩⟩
    · have h : c3 ≠ 0 := by simpa using h
      have e : thenE c3 l = c3 := by unfold thenE; rw [if_neg h]
      rw [e]
      exact ⟨(), trivial, Ent.el ⟨rfl, rfl, rfl, trivial⟩⟩
  intro _ _
  generalize thenE c3 l = e at hV
  refine LWp.seq (LWp.seq ?_)
  refine LWp.x (gs := []) (hs := []) rfl trivial ?_
  refine LWp.ite rfl (fun h => ?_) (fun h => LWp.skip ?_)
  · have h : e ≠ 0 := by simpa using h
    rw [if_neg h]
    refine LWp.sx (gs := []) (hs := []) rfl trivial ?_
    exact LWp.ret (retT (.inr rfl) (.many (by decide) ⟨.tmp rfl rfl, .tmp rfl rfl, trivial⟩))
  have h : e = 0 := by simpa using h
  rw [if_pos h]
  obtain ⟨V, hl⟩ := hV h
  have hw8 := V.w8
  have hw30 := V.w30
  have hww : (s.w.toNat : Int) = s.w := by omega
  have htx := text_ev s.w.toNat l (by omega) hl
  rw [hww] at htx
  refine LWp.sx (gs := []) (hs := [.ret (Str (textF s.w.toNat l))]) rfl ⟨htx, trivial⟩ ?_
  exact LWp.ret (retT (.inr rfl) (.many (by decide) ⟨.tmp rfl rfl, .tmp rfl rfl, trivial⟩))
end Go.Px

namespace Go.Px
open Go.Proofs
def sepU (u : Nat) : Bool := decide (u = 32) || decide (u = 10)
theorem sep1_ev (u : Nat) : Ev Try.prog 78 [.v (.int .i32 u)] (B (sepU u)) := by
  refine Ev.intro fn78 ?_
  refine LWp.sx (gs := []) (hs := []) rfl trivial ?_
  by_cases h : u = 32
  · have g : ((u : Int) == 32) = true := by simp [h]
    refine LWp.sx (gs := [(5, true)]) (hs := []) rfl (by (repeat' (with_reducible apply And.intro)); (all_goals try first | (with_reducible exact trivial) | (with_reducible rfl) | (with_reducible assumption) | ((with_reducible apply isB); first | exact rfl | exact beq_self_eq_true _))) ?_
    refine LWp.ret (retT (.inr rfl) (.one (.tmp ?_ rfl)))
    show B _ = B _
    unfold sepU; simp [h]
  · have g : ((u : Int) == 32) = false := by rw [beq_eq_false_iff_ne]; omega
    refine LWp.sx (gs := [(5, false)]) (hs := []) rfl (by (repeat' (with_reducible apply And.intro)); (all_goals try first | (with_reducible exact trivial) | (with_reducible rfl) | (with_reducible assumption) | ((with_reducible apply isB); first | exact rfl | exact beq_self_eq_true _))) ?_
    refine LWp.ret (retT (.inr rfl) (.one (.tmp ?_ rfl)))
    show B _ = B _
    unfold sepU
    rw [decide_eq_false h, Bool.false_or]
    congr 1
    rw [Bool.eq_iff_iff]; simp; omega
/-- The word that is being read. -/
def curF (t : List UInt8) (k : Nat) (st : Int) : List UInt8 := if st < 0 then [] else (t.take k).drop st.toNat
def spanT (t : List UInt8) (p : Nat × Nat) : Wd := (t.take p.2).drop p.1
abbrev spansE (l : List (Nat × Nat)) : List (List AV) := l.map fun p => [I p.1, I p.2]
structure FOK (t : List UInt8) (k : Nat) (sp : List (Nat × Nat)) (st : Int) : Prop where
  hk : k ≤ t.length
  st0 : -1000001 ≤ st
  st1 : st < k
  len : sp.length ≤ k
  hsp : ∀ p ∈ sp, p.1 ≤ p.2 ∧ p.2 ≤ t.length
  eq : fieldsF t = sp.map (spanT t) ++ fieldsG (t.drop k) (curF t k st)
theorem take_slide (t : List UInt8) {a k n : Nat} (h : a ≤ k) (hk : k ≤ t.length) : (t.take (k + n)).drop a = (t.take k).drop a ++ (t.drop k).take n := by
  rw [List.take_add, List.drop_append_of_le_length (by rw [List.length_take]; omega)]
theorem curF_ne {t : List UInt8} {k : Nat} {st : Int} (h0 : 0 ≤ st) (h1 : st < k) (hk : k ≤ t.length) : curF t k st ≠ [] := by
  unfold curF
  rw [if_neg (by omega)]
  intro e
  have := congrArg List.length e
  rw [List.length_drop, List.length_take] at this
  simp at this
  omega
theorem fields_ev (t : List UInt8) (ht : t.length ≤ 1000000) (g : Nat) (hg : ∀ u : Nat, Ev Try.prog g [.v (.int .i32 u)] (B (sepU u))) : Ev Try.prog 77 [Str t, .fn (.func g) [] []] (strs (fieldsF t)) := by
  have hss : (ByteArray.mk t.toArray).size = t.length := rfl
  refine Ev.intro fn77 ?_
  refine LWp.sx (gs := []) (hs := []) rfl trivial ?_
  refine LWp.seq (LWp.ops (WOps.cons (Op1.msliceCL 0 32 rfl rfl rfl rfl (by omega) (by decide) (by decide) rfl ?_)))
  refine WOps.xd (gs := []) (hs := []) rfl trivial ?_
  refine LWp.sx (gs := []) (hs := []) rfl trivial ?_
  refine LWp.seq (LWp.seq (LWp.ops ?_))
  refine WOps.xn (gs := []) (hs := []) 1 rfl rfl trivial ?_
  refine WOps.cons (Op1.rangeS rfl (fun b => ?_))
  refine WOps.nil ?_
  refine LWp.blockT (fun x : List (Nat × Nat) × Int => FOK t t.length x.1 x.2) (fun x => el [(0, Str t), (5, .lin 169 2 (spansE x.1)), (6, I x.2)]) (fun _ => []) (fun _ => []) ?_ ?_
  · refine LWp.loopN (fun x : Nat × List (Nat × Nat) × Int => FOK t x.1 x.2.1 x.2.2) (fun x => el [(0, Str t), (1, .fn (.func g) [] []), (5, .lin 169 2 (spansE x.2.1)), (6, I x.2.2), (14, .po b 0)]) (fun x => [(b, .raw (.stringIter ⟨t.toArray⟩ x.1))]) (fun _ => []) (fun x => t.length - x.1) (0, [], -1) ⟨by omega, by show (-1000001 : Int) ≤ -1; decide, by show (-1 : Int) < 0; decide, by simp, by simp, rfl⟩
      (Ent.el ⟨rfl, rfl, rfl, rfl, rfl, trivial⟩) ?_
    rintro ⟨k, sp, st⟩ ok
    obtain ⟨hk, s0, s1, hl, hsp, heq⟩ := ok
    simp only at hk s0 s1 hl hsp heq
    have hsl : (spansE sp).length = sp.length := List.length_map _
    refine LWp.ent (Ent.el (l := [(0, Str t), (1, .fn (.func g) [] []), (5, .lin 169 2 (spansE sp)), (6, I st), (14, .po b 0)]) ⟨rfl, rfl, rfl, rfl, rfl, trivial⟩) ?_
    refine LWp.seq (LWp.ops (WOps.cons (Op1.nextS (i := 0) rfl rfl (fun hp => ?_) (fun hp => ?_))))
    · have hp : k < t.length := hp
      obtain ⟨c, hc⟩ := ex_get hp
      have hgt : ∀ (j : Nat) (x : UInt8), t[j]? = some x → (ByteArray.mk t.toArray).get! j = x := by
        intro j x hx
        have hlt := (List.getElem?_eq_some_iff.1 hx).1
        have h2 := (List.getElem?_eq_some_iff.1 hx).2
        show t.toArray[j]! = x
        rw [getElem!_pos t.toArray j (by simpa using hlt)]
        simpa using h2
      have hgc := hgt k c hc
      have hwd : 128 ≤ c.toNat → 128 ≤ (Utf8.decode ⟨t.toArray⟩ k).1 := fun h => decode_hi _ _ (by rw [hgc]; exact h)
      have hwl : c.toNat < 128 → Utf8.decode ⟨t.toArray⟩ k = (c.toNat, 1) := fun h => by rw [decode_lo _ _ (by rw [hgc]; exact h), hgc]
      have hw1 := decode_pos ⟨t.toArray⟩ k
      have hwn : ∀ j, 1 ≤ j → j < (Utf8.decode ⟨t.toArray⟩ k).2 → k + j < t.length ∧ ∀ x, t[k + j]? = some x → 128 ≤ x.toNat := by
        intro j j0 j1
        obtain ⟨h1, h2⟩ := decode_width ⟨t.toArray⟩ k j j0 j1
        exact ⟨h1, fun x hx => by rw [hgt _ _ hx] at h2; exact h2⟩
      generalize hde : Utf8.decode ⟨t.toArray⟩ k = de at hwd hwl hw1 hwn
      obtain ⟨u, wd⟩ := de
      simp only at hwd hw1 hwn
      have hkw : k + wd ≤ t.length := by
        by_cases h1 : wd = 1
        · omega
        · have := (hwn (wd - 1) (by omega) (by omega)).1
          omega
      have hsep : sepU u = true → u = c.toNat ∧ wd = 1 ∧ sepB c = true := by
        intro h
        by_cases hlt : c.toNat < 128
        · have := hwl hlt
          simp only [Prod.mk.injEq] at this
          refine ⟨this.1, this.2, ?_⟩
          rw [this.1] at h
          simp only [sepU, Bool.or_eq_true, decide_eq_true_eq] at h
          simp only [sepB, Bool.or_eq_true, decide_eq_true_eq]
          rcases h with h | h
          · exact .inl (UInt8.toNat_inj.1 h)
          · exact .inr (UInt8.toNat_inj.1 h)
        · have := hwd (by omega)
          simp [sepU] at h
          omega
      have hnsep : sepU u = false → NS ((t.drop k).take wd) := by
        intro h x hx
        obtain ⟨j, hj⟩ := List.mem_iff_getElem?.1 hx
        rw [List.getElem?_take] at hj
        split at hj
        · rename_i hjw
          rw [List.getElem?_drop] at hj
          by_cases hj0 : j = 0
          · subst hj0
            have hxc : x = c := by rw [Nat.add_zero, hc] at hj; exact (Option.some.inj hj).symm
            subst hxc
            by_cases hlt : x.toNat < 128
            · have := hwl hlt
              simp only [Prod.mk.injEq] at this
              rw [this.1] at h
              simp only [sepU, Bool.or_eq_false_iff, decide_eq_false_iff_not] at h
              simp only [sepB, Bool.or_eq_false_iff, decide_eq_false_iff_not]
              exact ⟨fun e => h.1 (by rw [e]; rfl), fun e => h.2 (by rw [e]; rfl)⟩
            · simp only [sepB, Bool.or_eq_false_iff, decide_eq_false_iff_not]
              exact ⟨fun e => by rw [e] at hlt; exact hlt (by decide), fun e => by rw [e] at hlt; exact hlt (by decide)⟩
          · have := (hwn j (by omega) hjw).2 x hj
            simp only [sepB, Bool.or_eq_false_iff, decide_eq_false_iff_not]
            exact ⟨fun e => by rw [e] at this; exact absurd this (by decide), fun e => by rw [e] at this; exact absurd this (by decide)⟩
        · cases hj
      refine WOps.xd (gs := []) (hs := []) rfl trivial ?_
      refine LWp.seq (LWp.ite (b := true) rfl (fun _ => LWp.skip ?_) (fun h => by cases h))
      refine LWp.block ?_
      refine LWp.sx (gs := []) (hs := []) rfl trivial ?_
      refine LWp.sx (gs := []) (hs := [.ret (B (sepU u))]) rfl ⟨hg u, trivial⟩ ?_
      refine LWp.ite rfl (fun hb => ?_) (fun hb => ?_)
      · obtain ⟨e1, e2, e3⟩ := hsep hb
        subst e2
        rw [drop_cons hc, fieldsG, if_pos e3] at heq
        refine LWp.sx (gs := []) (hs := []) rfl trivial ?_
        by_cases h0 : 0 ≤ st
        · obtain ⟨a, rfl⟩ : ∃ a : Nat, st = a := ⟨st.toNat, by omega⟩
          have hne := curF_ne h0 s1 hk
          rw [if_neg hne] at heq
          have hcur : curF t k (a : Int) = spanT t (a, k) := by unfold curF spanT; rw [if_neg (by omega)]; simp
          refine LWp.ite (b := true) (by show B _ = B _; simp) (fun _ => ?_) (fun h => by cases h)
          refine LWp.sx (gs := []) (hs := [.ice]) rfl ⟨rfl, ⟨by show (_ + 1) * 16 ≤ _; rw [hsl]; omega, by show _ + 1 ≤ _; rw [hsl]; omega⟩, trivial⟩ ?_
          refine LWp.x (gs := []) (hs := [.op (I (-(a : Int) - 1))]) rfl ⟨fun _ _ _ => Op1.compl rfl (by omega) ⟨rfl, rfl, rfl⟩, trivial⟩ ?_
          refine ⟨(k + 1, sp ++ [(a, k)], -(a : Int) - 1), ⟨by simp only; omega, by simp only; omega, by simp only; omega, by simp; omega, ?_, ?_⟩, by simp only; omega, Ent.trans (Ent.ofH rfl) (Ent.el ⟨rfl, rfl, ?_, rfl, rfl, trivial⟩)⟩
          · intro p hp
            rcases List.mem_append.1 hp with hp | hp
            · exact hsp p hp
            · rw [List.mem_singleton] at hp; subst hp; exact ⟨by simp only; omega, by simp only; omega⟩
          · have e4 : curF t (k + 1) (-(a : Int) - 1) = [] := by unfold curF; rw [if_pos (by omega)]
            rw [heq, e4, hcur, List.map_append]; simp
          · show AV.lin _ _ _ = _
            simp only [spansE, List.map_append]; rfl
        · have h0 : st < 0 := by omega
          have hcur : curF t k st = [] := by unfold curF; rw [if_pos h0]
          rw [hcur, if_pos rfl] at heq
          refine LWp.ite (b := false) (by show B _ = B _; congr 2; simp; omega) (fun h => by cases h) (fun _ => LWp.skip ?_)
          refine ⟨(k + 1, sp, st), ⟨by simp only; omega, s0, by simp only; omega, by simp only; omega, hsp, ?_⟩, by simp only; omega, Ent.trans (Ent.ofH rfl) (Ent.el ⟨rfl, rfl, rfl, rfl, rfl, trivial⟩)⟩
          have e4 : curF t (k + 1) st = [] := by unfold curF; rw [if_pos h0]
          rw [heq, e4]
      · have hns := hnsep hb
        have hsplit : t.drop k = (t.drop k).take wd ++ t.drop (k + wd) := by
          have := (List.take_append_drop wd (t.drop k)).symm
          rwa [List.drop_drop] at this
        rw [hsplit, fieldsG_ns hns] at heq
        refine LWp.sx (gs := []) (hs := []) rfl trivial ?_
        by_cases h0 : st < 0
        · have hcur : curF t k st = [] := by unfold curF; rw [if_pos h0]
          rw [hcur, List.nil_append] at heq
          refine LWp.ite (b := true) (by show B _ = B _; simp [h0]) (fun _ => ?_) (fun h => by cases h)
          refine LWp.x (gs := []) (hs := []) rfl trivial ?_
          refine ⟨(k + wd, sp, (k : Int)), ⟨hkw, by simp only; omega, by simp only; omega, by simp only; omega, hsp, ?_⟩, by simp only; omega, Ent.trans (Ent.ofH rfl) (Ent.el ⟨rfl, rfl, rfl, rfl, rfl, trivial⟩)⟩
          have e4 : curF t (k + wd) (k : Int) = (t.drop k).take wd := by
            unfold curF
            rw [if_neg (by omega), Int.toNat_natCast, take_slide t (Nat.le_refl k) hk, List.drop_eq_nil_of_le (by simp; omega), List.nil_append]
          rw [heq, e4]
        · have h0' : 0 ≤ st := by omega
          refine LWp.ite (b := false) (by show B _ = B _; congr 2; simp; omega) (fun h => by cases h) (fun _ => LWp.skip ?_)
          refine ⟨(k + wd, sp, st), ⟨hkw, s0, by simp only; omega, by simp only; omega, hsp, ?_⟩, by simp only; omega, Ent.trans (Ent.ofH rfl) (Ent.el ⟨rfl, rfl, rfl, rfl, rfl, trivial⟩)⟩
          have e4 : curF t (k + wd) st = curF t k st ++ (t.drop k).take wd := by
            unfold curF
            rw [if_neg h0, if_neg h0, take_slide t (by omega) hk]
          rw [heq, e4]
    · have hp : ¬ k < t.length := hp
      refine WOps.xd (gs := []) (hs := []) rfl trivial ?_
      refine LWp.seq (LWp.ite (b := false) rfl (fun h => by cases h) (fun _ => LWp.exit ⟨(sp, st), ?_, ?_⟩))
      · have : k = t.length := by omega
        subst this
        exact ⟨hk, s0, s1, hl, hsp, heq⟩
      · exact Ent.trans (Ent.dropH 0) (Ent.el ⟨rfl, rfl, rfl, trivial⟩)
  · rintro ⟨sp, st⟩ ⟨hk, s0, s1, hl, hsp, heq⟩
    simp only at hk s0 s1 hl hsp heq
    have hsl : (spansE sp).length = sp.length := List.length_map _
    rw [List.drop_length] at heq
    refine LWp.ent (Ent.el (l := [(0, Str t), (5, .lin 169 2 (spansE sp)), (6, I st)]) ⟨rfl, rfl, rfl, trivial⟩) ?_
    refine LWp.seq (LWp.seq ?_)
    refine LWp.x (gs := []) (hs := []) rfl trivial ?_
    refine LWp.cutT (fun x : List (Nat × Nat) => x.length ≤ t.length + 1 ∧ (∀ p ∈ x, p.1 ≤ p.2 ∧ p.2 ≤ t.length) ∧ fieldsF t = x.map (spanT t)) (fun x => el [(0, Str t), (5, .lin 169 2 (spansE x))]) (fun _ => []) (fun _ => []) ?_ ?_
    · by_cases h0 : 0 ≤ st
      · obtain ⟨a, rfl⟩ : ∃ a : Nat, st = a := ⟨st.toNat, by omega⟩
        have hne := curF_ne h0 s1 hk
        rw [fieldsG, if_neg hne] at heq
        have hcur : curF t t.length (a : Int) = spanT t (a, t.length) := by unfold curF spanT; rw [if_neg (by omega)]; simp
        refine LWp.ite (b := true) (by show B _ = B _; simp) (fun _ => ?_) (fun h => by cases h)
        refine LWp.x (gs := []) (hs := [.ice]) rfl ⟨rfl, ⟨by show (_ + 1) * 16 ≤ _; rw [hsl]; omega, by show _ + 1 ≤ _; rw [hsl]; omega⟩, trivial⟩ ?_
        refine ⟨sp ++ [(a, t.length)], ⟨by simp; omega, ?_, ?_⟩, Ent.el ⟨rfl, ?_, trivial⟩⟩
        · intro p hp
          rcases List.mem_append.1 hp with hp | hp
          · exact hsp p hp
          · rw [List.mem_singleton] at hp; subst hp; exact ⟨by simp only; omega, by simp only; omega⟩
        · rw [heq, hcur, List.map_append]; simp
        · show AV.lin _ _ _ = _
          simp only [spansE, List.map_append]; rfl
      · have h0 : st < 0 := by omega
        have hcur : curF t t.length st = [] := by unfold curF; rw [if_pos h0]
        rw [hcur, fieldsG, if_pos rfl, List.append_nil] at heq
        refine LWp.ite (b := false) (by show B _ = B _; congr 2; simp; omega) (fun h => by cases h) (fun _ => LWp.skip ?_)
        exact ⟨sp, ⟨by omega, hsp, heq⟩, Ent.el ⟨rfl, rfl, trivial⟩⟩
    · intro S ⟨h1, h2, h3⟩
      have hSl : (spansE S).length = S.length := List.length_map _
      rw [h3]
      refine LWp.ent (Ent.freezeLin (t := 5) rfl) ?_
      refine LWp.seq (LWp.ops ?_)
      refine WOps.xn (gs := []) (hs := []) 2 rfl rfl trivial ?_
      refine WOps.cons (Op1.mslice S.length rfl rfl (by show ((spansE S).length : Int) = _; rw [hSl]) (by show ((spansE S).length : Int) = _; rw [hSl]) (by omega) (by omega) rfl (fun g2 => ?_))
      refine WOps.xd (gs := []) (hs := []) rfl trivial ?_
      refine LWp.ent (Ent.el (l := [(0, Str t), (5, .sl 2 (spansE S)), (9, .so g2 S.length S.length)]) ⟨rfl, rfl, by show AV.so _ _ _ = _; rw [List.length_replicate], trivial⟩) ?_
      refine LWp.seq (LWp.seq ?_)
      refine LWp.x (gs := []) (hs := []) rfl trivial ?_
      refine LWp.blockT (fun _ : Unit => True) (fun _ => el [(9, .so g2 S.length S.length)]) (fun _ => [(g2, .arr 9 1 S.length ((S.map (spanT t)).map fun s => [Str s]))]) (fun _ => []) ?_ ?_
      · refine LWp.loopN (fun k : Nat => k ≤ S.length) (fun k => el [(0, Str t), (9, .so g2 S.length S.length), (47, .sl 2 (spansE S)), (48, I S.length), (49, I k)]) (fun k => [(g2, .arr 9 1 S.length ((((S.take k).map (spanT t)).map fun s => [Str s]) ++ List.replicate (S.length - k) [Str []]))]) (fun _ => []) (fun k => S.length - k) 0 (by omega)
          (Ent.trans (Ent.ofH (by simp)) (Ent.el ⟨rfl, rfl, rfl, by show I _ = I _; rw [hSl], rfl, trivial⟩)) ?_
        intro k hk
        refine LWp.sx (gs := []) (hs := []) rfl trivial ?_
        refine LWp.seq (LWp.ite rfl (fun he => ?_) (fun he => ?_))
        · have he : k < S.length := by simp only [decide_eq_true_eq, Int.ofNat_lt] at he; exact he
          obtain ⟨⟨p1, p2⟩, hp⟩ := ex_get he
          obtain ⟨q1, q2⟩ := h2 _ (List.mem_of_getElem? hp)
          simp only at q1 q2
          refine LWp.skip (LWp.seq (LWp.block ?_))
          refine LWp.sx (gs := []) (hs := [.cells [I p1, I p2], .lin]) rfl ⟨⟨by omega, by simp [hp]⟩, rfl, ⟨rfl, rfl, rfl, by decide⟩, trivial⟩ ?_
          refine LWp.ent (Ent.freezeLbox (t := 11) rfl) ?_
          refine LWp.ops ?_
          have htl : (((S.take k).map (spanT t)).map fun s => [Str s]).length = k := by simp; omega
          have hel : ((((S.take k).map (spanT t)).map fun s => [Str s]) ++ List.replicate (S.length - k) [Str []])[k]? = some [Str []] := by
            rw [List.getElem?_append_right (by rw [htl]; omega), htl, Nat.sub_self]
            rw [List.getElem?_replicate]; rw [if_pos (by omega)]
          refine WOps.xn (gs := []) (hs := []) 9 rfl rfl (by exact ⟨⟨⟨by omega, by omega⟩, by simp only [Option.getD_some]; omega, by simp only [Option.getD_some]; omega⟩, ⟨by omega, by omega⟩, trivial⟩) ?_
          refine WOps.cons (Op1.storeE (i := 0) (m := k) (f := 0) rfl rfl (by show ((k : Int).toNat) * 1 = _; simp) hel rfl rfl rfl rfl (by show 1 ≤ 1; decide) ?_)
          refine WOps.nil ?_
          refine LWp.x (gs := []) (hs := []) rfl ⟨by omega, trivial⟩ ?_
          refine ⟨k + 1, by omega, by omega, Ent.trans (Ent.ofH ?_) (Ent.el ⟨rfl, rfl, rfl, rfl, rfl, trivial⟩)⟩
          have hrs : List.replicate (S.length - k) [Str []] = [Str []] :: List.replicate (S.length - (k + 1)) [Str []] := by
            rw [show S.length - k = (S.length - (k + 1)) + 1 by omega, List.replicate_succ]
          have hE : setSeg [Str []] 0 [AV.v (.string (ByteArray.extract ⟨t.toArray⟩ p1 p2))] = [Str (spanT t (p1, p2))] := by
            rw [strX]; rfl
          show [(g2, HObj.arr 9 1 S.length (((((S.take k).map (spanT t)).map fun s => [Str s]) ++ List.replicate (S.length - k) [Str []]).set k (setSeg [Str []] 0 [AV.v (.string (ByteArray.extract ⟨t.toArray⟩ p1 p2))])))] = _
          rw [hE, hrs, List.set_append_right _ _ (by rw [htl]; omega), htl, Nat.sub_self, List.set_cons_zero, take_snoc hp, List.map_append, List.map_append, List.append_assoc]
          rfl
        · have he : ¬ k < S.length := by simp only [decide_eq_false_iff_not, Int.ofNat_lt] at he; exact he
          have : k = S.length := by omega
          subst this
          exact LWp.exit ⟨(), trivial, Ent.trans (Ent.ofH (by simp)) (Ent.el ⟨rfl, trivial⟩)⟩
      · intro _ _
        have hml : ((S.map (spanT t)).map fun s => [Str s]).length = S.length := by simp
        refine LWp.sx (gs := []) (hs := []) rfl trivial ?_
        refine LWp.ent (Ent.unshare (i := 0) (t := 4) (es := (S.map (spanT t)).map fun s => [Str s]) (by rw [hml]; rfl) rfl) ?_
        refine LWp.ent (Ent.freezeLin (t := 4) rfl) ?_
        refine LWp.ret (retT (.inr rfl) (.one (.tmp ?_ rfl)))
        rfl
end Go.Px

namespace Go.Px
open Go.Proofs
theorem fieldsG_len : ∀ (t cur : List UInt8), (fieldsG t cur).length ≤ t.length + 1
  | [], cur => by
    simp only [fieldsG]
    split <;> simp
  | x :: l, cur => by
    simp only [fieldsG]
    split
    · split
      · have := fieldsG_len l []
        simp; omega
      · have := fieldsG_len l []
        simp; omega
    · have := fieldsG_len l (cur ++ [x])
      simp; omega
theorem read_ev (s : Shelf) (hw : s.wf) (t : List UInt8) : Ev Try.prog 30 [.agg s.enc, Str t] (.tup [strs (readR s t).1, I (readR s t).2]) := by
  have hss : (ByteArray.mk t.toArray).size = t.length := rfl
  have hck := check_ev s hw
  have hV : (checkS s).2.2 = 0 → ShelfV s := fun h => shelf_iff.1 h
  have hR : readR s t = if (checkS s).2.2 = 0 then (if 160 < t.length then ([], 3) else if readB s.w.toNat t (fieldsF t) = true then (fieldsF t, 0) else ([], 6)) else ([], (checkS s).2.2) := rfl
  refine Ev.intro fn30 ?_
  have res : ∀ {env : Env} {H : Heap} {x : List Wd} {r : Int}, readR s t = (x, r) → env 4 = strs x → env 5 = I r → retP Try.prog [.tmp 4, .tmp 5] (.tup [strs (readR s t).1, I (readR s t).2]) .ret env H [] := by
    intro env H x r h h2 h3
    rw [h]
    exact retT (.inr rfl) (.many (by decide) ⟨.tmp h2 rfl, .tmp h3 rfl, trivial⟩)
  generalize (checkS s).1 = c1 at hck
  generalize (checkS s).2.1 = c2 at hck
  generalize (checkS s).2.2 = c3 at hck hV hR
  refine LWp.sx (gs := []) (hs := [.ice]) rfl ⟨⟨rfl, rfl⟩, trivial⟩ ?_
  refine LWp.sx (gs := []) (hs := [.ret (.tup [I c1, I c2, I c3])]) rfl ⟨hck, trivial⟩ ?_
  refine LWp.seqBlock ?_
  refine LWp.sx (gs := []) (hs := []) rfl trivial ?_
  by_cases h : c3 = 0
  case neg =>
    rw [if_neg h] at hR
    refine LWp.ite (b := true) (by show B _ = B _; simp [h]) (fun _ => ?_) (fun h => by cases h)
    refine LWp.sx (gs := []) (hs := []) rfl trivial ?_
    refine LWp.ent (Ent.nilSl (t := 4) 1 rfl) ?_
    exact LWp.ret (res hR rfl rfl)
  rw [if_pos h] at hR
  have V := hV h
  refine LWp.ite (b := false) (by show B _ = B _; simp [h]) (fun h => by cases h) (fun _ => ?_)
  refine LWp.sx (gs := []) (hs := []) rfl trivial ?_
  by_cases hl : 160 < t.length
  · rw [if_pos hl] at hR
    refine LWp.ite (b := true) (by show B _ = B _; rw [hss]; congr 2; simp; omega) (fun _ => ?_) (fun h => by cases h)
    refine LWp.sx (gs := []) (hs := []) rfl trivial ?_
    refine LWp.ent (Ent.nilSl (t := 4) 1 rfl) ?_
    exact LWp.ret (res hR rfl rfl)
  rw [if_neg hl] at hR
  refine LWp.ite (b := false) (by show B _ = B _; rw [hss]; congr 2; simp; omega) (fun h => by cases h) (fun _ => LWp.skip ?_)
  have hfd := fields_ev t (by omega) 78 sep1_ev
  have hfl : (fieldsF t).length ≤ t.length + 1 := fieldsG_len t []
  generalize fieldsF t = X at hR hfd hfl
  refine LWp.sx (gs := []) (hs := [.ret (strs X)]) rfl ⟨hfd, trivial⟩ ?_
  have hle := lettered_ev X
  have hw8 := V.w8
  have hw30 := V.w30
  have hww : (s.w.toNat : Int) = s.w := by omega
  refine LWp.seq (LWp.seq ?_)
  by_cases hlz : letterE X = 0
  · have htx := text_ev s.w.toNat X (by omega) hlz
    rw [hww] at htx
    rw [hlz] at hle
    generalize hT : textF s.w.toNat X = T at htx
    have hrB : readB s.w.toNat t X = decide (T = t) := by unfold readB; rw [hT]; simp [hlz]
    rw [hrB] at hR
    refine LWp.x (gs := [(29, false)]) (hs := [.ret (I 0), .ret (Str T)]) rfl (by (repeat' (with_reducible apply And.intro)); (all_goals try first | (with_reducible exact trivial) | (with_reducible rfl) | (with_reducible assumption) | ((with_reducible apply isB); first | exact rfl | exact beq_self_eq_true _)); exact hle; exact htx) ?_
    by_cases hTt : T = t
    · rw [if_pos (by simpa using hTt)] at hR
      refine LWp.ite (b := false) (by show B _ = B _; subst hTt; simp) (fun h => by cases h) (fun _ => LWp.skip ?_)
      refine LWp.sx (gs := []) (hs := []) rfl trivial ?_
      exact LWp.ret (res hR rfl rfl)
    · rw [if_neg (by simpa using hTt)] at hR
      refine LWp.ite (b := true) (by show B _ = B _; simp [hTt]) (fun _ => ?_) (fun h => by cases h)
      refine LWp.sx (gs := []) (hs := []) rfl trivial ?_
      refine LWp.ent (Ent.nilSl (t := 4) 1 rfl) ?_
      exact LWp.ret (res hR rfl rfl)
  · have hrB : readB s.w.toNat t X = false := by unfold readB; simp [hlz]
    rw [hrB, if_neg (by decide)] at hR
    have g : (letterE X != 0) = true := by simp [hlz]
    generalize letterE X = e at hle g
    refine LWp.x (gs := [(29, true)]) (hs := [.ret (I e)]) rfl (by (repeat' (with_reducible apply And.intro)); (all_goals try first | (with_reducible exact trivial) | (with_reducible rfl) | (with_reducible assumption) | ((with_reducible apply isB); first | exact rfl | exact beq_self_eq_true _)); exact hle) ?_
    refine LWp.ite (b := true) rfl (fun _ => ?_) (fun h => by cases h)
    refine LWp.sx (gs := []) (hs := []) rfl trivial ?_
    refine LWp.ent (Ent.nilSl (t := 4) 1 rfl) ?_
    exact LWp.ret (res hR rfl rfl)
theorem markW (m : Mark) (h : m.wf) : WideKey Try.prog 5 123 (.agg #[.int .i64 m.k, .string ⟨m.w.toArray⟩]) := by
  have e1 : Try.prog.cellsOf 123 = 2 := by kernel_rfl
  have e3 : Try.prog.cellsOf 3 = 1 := by kernel_rfl
  have e9 : Try.prog.cellsOf 9 = 1 := by kernel_rfl
  have hk := wf_i64 h.k0 h.k1
  have hw : (ByteArray.mk m.w.toArray).size ≤ maxLen := by
    have := h.w
    unfold WdOK at this
    show m.w.length ≤ maxLen
    unfold maxLen
    omega
  refine ⟨?_, [.int .i64 m.k, .string m.w], ?_⟩
  · simp [Value.formed, Try.underlying123, e1]
  · simp [Value.cells, Program.keyLits, Try.underlying123, Try.underlying3, Try.underlying9, e1, e3, e9, hk, hw]
/-- '!=' of marks. -/
theorem op_mark {a b : Mark} (ha : a.wf) (hb : b.wf) {x y : Operand} {env : Env} {H : Heap} {t : Nat} (hx : evO env x = .agg a.enc) (hy : evO env y = .agg b.enc) :
    ∀ (r : Option Nat) (N : Nat) (D : List Nat), Q1 Try.prog r N (.eqT true 123 x y) (some t) env H D [(t, B (!decide (a = b)))] := by
  intro r N D
  exact Op1.eqT (neg := true) (m := 3) (DD := 5) (by decide) (by kernel_rfl) (by kernel_rfl) (by kernel_rfl) (by kernel_rfl) (u := .agg #[.int .i64 a.k, .string ⟨a.w.toArray⟩]) (v := .agg #[.int .i64 b.k, .string ⟨b.w.toArray⟩]) (by rw [hx]; rfl) (by rw [hy]; rfl) (markW a ha) (markW b hb)
    (decide (a = b)) (by
      rw [decide_eq_true_iff]
      obtain ⟨ak, aw⟩ := a
      obtain ⟨bk, bw⟩ := b
      simp) ⟨rfl, rfl, rfl⟩
theorem requal_ev (l m : List Mark) (hlw : ∀ x ∈ l, x.wf) (hmw : ∀ x ∈ m, x.wf) : Ev Try.prog 34 [marksV l, marksV m] (B (l == m)) := by
  refine Ev.intro fn34 ?_
  refine LWp.slLen 0 rfl fun hll => ?_
  have hl : (l.map Mark.enc).length = l.length := List.length_map _
  have hm : (m.map Mark.enc).length = m.length := List.length_map _
  refine LWp.sx (gs := []) (hs := []) rfl trivial ?_
  refine LWp.seq (LWp.seq ?_)
  refine LWp.x (gs := []) (hs := []) rfl trivial ?_
  refine LWp.ite rfl (fun hc => ?_) (fun hc => ?_)
  · have hc : l.length ≠ m.length := by
      intro e
      simp [e] at hc
    refine LWp.sx (gs := []) (hs := []) rfl trivial ?_
    refine LWp.ret (retT (.inr rfl) (.one (.tmp ?_ rfl)))
    show B _ = B _
    have : l ≠ m := fun e => hc (by rw [e])
    simp [this]
  have hc : l.length = m.length := by
    simp at hc; omega
  refine LWp.skip ?_
  refine LWp.seq (LWp.seq ?_)
  refine LWp.x (gs := []) (hs := []) rfl trivial ?_
  refine LWp.blockT (fun _ : Unit => l = m) (fun _ => el []) (fun _ => []) (fun _ => []) ?_ ?_
  · refine LWp.loopN (fun k : Nat => k ≤ l.length ∧ ∀ i, i < k → l[i]? = m[i]?) (fun k => el [(0, marksV l), (1, marksV m), (5, I k)]) (fun _ => []) (fun _ => []) (fun k => l.length - k) 0 ⟨by omega, fun i hi => by omega⟩
      (Ent.el ⟨rfl, rfl, rfl, trivial⟩) ?_
    rintro k ⟨hk, hi⟩
    refine LWp.seq (LWp.seq ?_)
    refine LWp.x (gs := []) (hs := []) rfl trivial ?_
    refine LWp.ite rfl (fun he => ?_) (fun he => ?_)
    · simp only [List.length_map, decide_eq_true_eq, Int.ofNat_lt] at he
      obtain ⟨x, hx⟩ := ex_get he
      obtain ⟨y, hy⟩ := ex_get (l := m) (k := k) (by omega)
      have hop := fun {o p : Operand} {env : Env} {H : Heap} {t : Nat} (h1 : evO env o = .agg x.enc) (h2 : evO env p = .agg y.enc) => op_mark (hlw x (List.mem_of_getElem? hx)) (hmw y (List.mem_of_getElem? hy)) (x := o) (y := p) (env := env) (H := H) (t := t) h1 h2
      refine LWp.skip ?_
      refine LWp.blockX (fun _ : Unit => x = y) (fun _ => el [(0, marksV l), (1, marksV m), (5, I k)]) (fun _ => []) (fun _ => []) ?_ ?_
      · refine LWp.seq ?_
        refine LWp.dd (gs := []) (hs := [.cells x.enc, .cells y.enc, .op (B (!decide (x = y)))]) hmix rfl (by kernel_rfl) ⟨⟨by omega, by simp [hx]⟩, ⟨by omega, by simp [hy]⟩, hop rfl rfl, trivial⟩ ?_
        refine LWp.ite rfl (fun hb => ?_) (fun hb => ?_)
        · have hb : x ≠ y := by intro e; subst e; simp at hb
          refine LWp.sx (gs := []) (hs := []) rfl trivial ?_
          refine LWp.ret (retT (.inr rfl) (.one (.tmp ?_ rfl)))
          show B _ = B _
          have : l ≠ m := by
            intro e
            rw [e, hy] at hx
            exact hb (Option.some.inj hx).symm
          simp [this]
        · have hb : x = y := by simpa using hb
          exact LWp.skip ⟨(), hb, Ent.el ⟨rfl, rfl, rfl, trivial⟩⟩
      intro _ h0
      refine LWp.x (gs := []) (hs := []) rfl ⟨by omega, trivial⟩ ?_
      refine ⟨k + 1, ⟨by omega, ?_⟩, by omega, Ent.el ⟨rfl, rfl, rfl, trivial⟩⟩
      intro i h
      by_cases hik : i < k
      · exact hi i hik
      · have : i = k := by omega
        subst this
        rw [hx, hy, h0]
    · simp only [List.length_map, decide_eq_false_iff_not, Int.ofNat_lt] at he
      exact LWp.exit ⟨(), eq_of_all hc k (by omega) hi, Ent.el trivial⟩
  intro _ h0
  refine LWp.sx (gs := []) (hs := []) rfl trivial ?_
  refine LWp.ret (retT (.inr rfl) (.one (.tmp ?_ rfl)))
  show B _ = B _
  subst h0
  simp
end Go.Px

namespace Go.Px
open Go.Proofs
theorem placeW {a b : Int} (ha : (Lit.int .i64 a).wf = true) (hb : (Lit.int .i64 b).wf = true) : WideKey Try.prog 3 118 (.agg #[.int .i64 a, .int .i64 b]) := by
  have e1 : Try.prog.cellsOf 118 = 2 := by kernel_rfl
  have e3 : Try.prog.cellsOf 3 = 1 := by kernel_rfl
  refine ⟨?_, [.int .i64 a, .int .i64 b], ?_⟩
  · simp [Value.formed, Try.underlying118, e1]
  · simp [Value.cells, Program.keyLits, Try.underlying118, Try.underlying3, e1, e3, ha, hb]
theorem op_place {a b c d : Int} (ha : (Lit.int .i64 a).wf = true) (hb : (Lit.int .i64 b).wf = true) (hc : (Lit.int .i64 c).wf = true) (hd : (Lit.int .i64 d).wf = true) {x y : Operand} {env : Env} {H : Heap} {t : Nat}
    (hx : valOf (evO env x) = some (.agg #[.int .i64 a, .int .i64 b])) (hy : valOf (evO env y) = some (.agg #[.int .i64 c, .int .i64 d])) :
    ∀ (r : Option Nat) (N : Nat) (D : List Nat), Q1 Try.prog r N (.eqT false 118 x y) (some t) env H D [(t, B (decide (a = c ∧ b = d)))] := by
  intro r N D
  exact Op1.eqT (neg := false) (m := 3) (DD := 3) (by decide) (by kernel_rfl) (by kernel_rfl) (by kernel_rfl) (by kernel_rfl) hx hy (placeW ha hb) (placeW hc hd) (decide (a = c ∧ b = d)) (by
    rw [decide_eq_true_iff]; simp) ⟨rfl, rfl, rfl⟩
theorem placeK : KeyOK Try.prog 118 (WideKey Try.prog 3 118) := KeyOK.wide (m := 3) (by decide) (by kernel_rfl) (by kernel_rfl) (by kernel_rfl)
abbrev placeV (a b : Nat) : AV := .agg [I a, I b]
/-- A reader: what is known lies in a map of its own. -/
abbrev readerV (from_ shape : List Wd) (bm : Nat) : AV := .pi [strs from_, strs shape, .mo bm]
theorem fits_ev (F S : List Wd) (bm : Nat) (a b : Nat) (w s : Wd) (hw : F[a]? = some w) (hs : S[b]? = some s) : Ev Try.prog 121 [readerV F S bm, placeV a b] (B (fitB s w)) := by
  refine Ev.intro fn121 ?_
  refine LWp.sx (gs := []) (hs := [.ice]) rfl ⟨⟨rfl, rfl⟩, trivial⟩ ?_
  by_cases h : s = []
  · subst h
    refine LWp.sd (gs := [(14, true)]) (hs := [.cells [Str []]]) hmix rfl (by kernel_rfl) (by (repeat' apply And.intro); (all_goals first | exact trivial | rfl | omega | simp [hs])) ?_
    refine LWp.ret (retT (.inr rfl) (.one (.tmp ?_ rfl)))
    rfl
  · refine LWp.sd (gs := [(14, false)]) (hs := [.cells [Str s], .cells [Str s], .cells [Str w]]) hmix rfl (by kernel_rfl) (by (repeat' apply And.intro); (all_goals first | exact trivial | rfl | omega | simp [hs, h, hw])) ?_
    refine LWp.ret (retT (.inr rfl) (.one (.tmp ?_ rfl)))
    show B _ = B _
    have e : (s == w) = decide (s = w) := by rw [Bool.eq_iff_iff]; simp
    simp [fitB, h]
    exact e
end Go.Px

namespace Go.Px
open Go.Proofs
/-- A mark of a kind at a place: the place behind it, and how many corrections it is; below 0: it cannot be made. -/
def stepR (F S : List Wd) (k a b : Nat) : Nat × Nat × Int := match k, F[a]?, S[b]? with
  | 0, some w, some s => if fitB s w = true then (a + 1, b + 1, 0) else (a, b, -1)
  | 1, some w, some s => if fitB s w = true then (a, b, -1) else (a + 1, b + 1, 1)
  | 2, some _, _ => (a + 1, b, 1)
  | 3, _, some _ => (a, b + 1, 1)
  | _, _, _ => (a, b, -1)
theorem stepR_over {F S : List Wd} {k a b : Nat} (hk : k ≤ 3) (ha : a ≤ F.length) (hb : b ≤ S.length) (h : F.length < (if k ≠ 3 then a + 1 else a) ∨ S.length < (if k ≠ 2 then b + 1 else b)) : stepR F S k a b = (a, b, -1) := by
  have hF : F.length ≤ a → F[a]? = none := fun h => List.getElem?_eq_none h
  have hS : S.length ≤ b → S[b]? = none := fun h => List.getElem?_eq_none h
  match k, hk with
  | 0, _ =>
    simp at h
    rcases h with h | h
    · simp [stepR, hF (by omega)]
    · simp [stepR, hS (by omega)]
  | 1, _ =>
    simp at h
    rcases h with h | h
    · simp [stepR, hF (by omega)]
    · simp [stepR, hS (by omega)]
  | 2, _ =>
    simp at h
    rcases h with h | h
    · simp [stepR, hF (by omega)]
    · omega
  | 3, _ =>
    simp at h
    rcases h with h | h
    · omega
    · simp [stepR, hS (by omega)]
theorem step_ev (F S : List Wd) (bm k a b : Nat) (hk : k ≤ 3) (ha : a ≤ F.length) (hb : b ≤ S.length) (hF : F.length ≤ 1000) (hS : S.length ≤ 1000) :
    Ev Try.prog 83 [readerV F S bm, I k, placeV a b] (.tup [placeV (stepR F S k a b).1 (stepR F S k a b).2.1, I (stepR F S k a b).2.2]) := by
  have hFl : (F.map fun s => [Str s]).length = F.length := List.length_map _
  have hSl : (S.map fun s => [Str s]).length = S.length := List.length_map _
  have hu4 : Try.prog.underlying 4 = some .bool := by kernel_rfl
  generalize hR : stepR F S k a b = R
  refine Ev.intro fn83 ?_
  refine LWp.sx (gs := []) (hs := [.ice, .lin]) rfl ⟨⟨rfl, rfl⟩, rfl, trivial⟩ ?_
  refine LWp.sx (gs := []) (hs := []) rfl trivial ?_
  refine LWp.seq (LWp.ops ?_)
  refine WOps.xn (gs := []) (hs := [.lin]) 3 rfl rfl ⟨rfl, ⟨rfl, rfl, rfl, by decide⟩, trivial⟩ ?_
  refine WOps.shareB (t := 9) rfl (fun b9 => ?_)
  refine WOps.xd (gs := []) (hs := []) rfl trivial ?_
  have bad : ∀ {Q : Post} {env : Env} {H : Heap} {c : List AV}, (∀ env H, retP Try.prog [.cell 6 118, .tmp 7] (.tup [placeV R.1 R.2.1, I R.2.2]) .ret env H [] → Q .ret env H []) → R = (a, b, -1) → env 6 = .lbox 118 c → env 5 = .pi [I a, I b] → c.length = 2 → LWp Try.prog none 61 (.seq (.ops [⟨some 57, none, .load 118 (tm 5) (some 2)⟩, ⟨none, none, .store 118 (tm 6) (tm 57) 2⟩, ⟨some 7, none, .mov (kc (-1))⟩]) .ret) Q env H [] := by
    intro Q env H c hQ hr h6 h5 hc
    obtain ⟨x, y, rfl⟩ : ∃ x y, c = [x, y] := by
      match c, hc with
      | [x, y], _ => exact ⟨x, y, rfl⟩
    refine LWp.ent (Ent.trans (Ent.subH (H' := []) (List.nil_sublist _)) (Ent.el (l := [(5, .pi [I a, I b]), (6, .lbox 118 [x, y])]) ⟨h5, h6, trivial⟩)) ?_
    refine LWp.sx (gs := []) (hs := []) rfl ⟨⟨rfl, rfl, rfl, by show 2 ≤ 2; decide⟩, trivial⟩ ?_
    refine LWp.ent (Ent.freezeLbox (t := 6) rfl) ?_
    refine LWp.ret (hQ _ _ ?_)
    rw [hr]
    exact retT (.inr rfl) (.many (by decide) ⟨.cellI (n := some 2) rfl (by kernel_rfl) rfl, .tmp rfl rfl, trivial⟩)
  have bad2 : ∀ {Q : Post} {env : Env} {H : Heap} {c : List AV}, (∀ env H, retP Try.prog [.cell 6 118, .tmp 7] (.tup [placeV R.1 R.2.1, I R.2.2]) .ret env H [] → Q .ret env H []) → R = (a, b, -1) → env 6 = .lbox 118 c → env 5 = .pi [I a, I b] → c.length = 2 → LWp Try.prog none 61 (.seq (.ops [⟨some 44, none, .load 118 (tm 5) (some 2)⟩, ⟨none, none, .store 118 (tm 6) (tm 44) 2⟩, ⟨some 7, none, .mov (kc (-1))⟩]) .ret) Q env H [] := by
    intro Q env H c hQ hr h6 h5 hc
    obtain ⟨x, y, rfl⟩ : ∃ x y, c = [x, y] := by
      match c, hc with
      | [x, y], _ => exact ⟨x, y, rfl⟩
    refine LWp.ent (Ent.trans (Ent.subH (H' := []) (List.nil_sublist _)) (Ent.el (l := [(5, .pi [I a, I b]), (6, .lbox 118 [x, y])]) ⟨h5, h6, trivial⟩)) ?_
    refine LWp.sx (gs := []) (hs := []) rfl ⟨⟨rfl, rfl, rfl, by show 2 ≤ 2; decide⟩, trivial⟩ ?_
    refine LWp.ent (Ent.freezeLbox (t := 6) rfl) ?_
    refine LWp.ret (hQ _ _ ?_)
    rw [hr]
    exact retT (.inr rfl) (.many (by decide) ⟨.cellI (n := some 2) rfl (by kernel_rfl) rfl, .tmp rfl rfl, trivial⟩)
  have _hst : ∀ (na nb : Nat), el [(0, readerV F S bm), (1, I k), (5, .pi [I a, I b]), (6, .lbox 118 [I 0, I 0]), (8, .fn (.func 121) [readerV F S bm] []), (9, .po b9 0), (10, I 1)] = el [(0, readerV F S bm), (1, I k), (5, .pi [I a, I b]), (6, .lbox 118 [I 0, I 0]), (8, .fn (.func 121) [readerV F S bm] []), (9, .po b9 0), (10, I 1)] := fun _ _ => rfl
  refine LWp.cutX (fun _ : Unit => True) (fun _ => el [(0, readerV F S bm), (1, I k), (5, .pi [I a, I b]), (6, .lbox 118 [I 0, I 0]), (8, .fn (.func 121) [readerV F S bm] []), (9, .po b9 0), (10, I 1)])
    (fun _ => [(b9, .cells 118 [I a, I (if k ≠ 2 then b + 1 else b : Nat)])]) (fun _ => []) ?_ ?_
  · by_cases h : k = 2
    · subst h
      refine LWp.sx (gs := []) (hs := []) rfl trivial ?_
      refine LWp.ite (b := false) rfl (fun h => by cases h) (fun _ => LWp.skip ?_)
      exact ⟨(), trivial, Ent.el ⟨rfl, rfl, rfl, rfl, rfl, rfl, rfl, trivial⟩⟩
    · refine LWp.sx (gs := []) (hs := []) rfl trivial ?_
      refine LWp.ite (b := true) (by show B _ = B _; exact congrArg B (by rw [bne_iff_ne]; omega)) (fun _ => ?_) (fun h => by cases h)
      refine LWp.ops ?_
      refine WOps.xn (gs := []) (hs := [.at 0]) 4 rfl rfl ⟨rfl, by omega, trivial⟩ ?_
      refine WOps.cons (Op1.storeO (i := 0) rfl rfl rfl rfl rfl rfl (by show 2 ≤ 2; decide) ?_)
      refine WOps.nil ⟨(), trivial, Ent.trans (Ent.ofH ?_) (Ent.el ⟨rfl, rfl, rfl, rfl, rfl, rfl, rfl, trivial⟩)⟩
      rw [if_pos h]; rfl
  intro _ _
  generalize hnb : (if k ≠ 2 then b + 1 else b : Nat) = nb
  refine LWp.cutX (fun _ : Unit => True) (fun _ => el [(0, readerV F S bm), (1, I k), (5, .pi [I a, I b]), (6, .lbox 118 [I 0, I 0]), (8, .fn (.func 121) [readerV F S bm] []), (9, .po b9 0), (10, I 1)])
    (fun _ => [(b9, .cells 118 [I (if k ≠ 3 then a + 1 else a : Nat), I nb])]) (fun _ => []) ?_ ?_
  · by_cases h : k = 3
    · subst h
      refine LWp.sx (gs := []) (hs := []) rfl trivial ?_
      refine LWp.ite (b := false) rfl (fun h => by cases h) (fun _ => LWp.skip ?_)
      exact ⟨(), trivial, Ent.el ⟨rfl, rfl, rfl, rfl, rfl, rfl, rfl, trivial⟩⟩
    · refine LWp.sx (gs := []) (hs := []) rfl trivial ?_
      refine LWp.ite (b := true) (by show B _ = B _; exact congrArg B (by rw [bne_iff_ne]; omega)) (fun _ => ?_) (fun h => by cases h)
      refine LWp.ops ?_
      refine WOps.xn (gs := []) (hs := [.at 0]) 4 rfl rfl ⟨rfl, by omega, trivial⟩ ?_
      refine WOps.cons (Op1.storeO (i := 0) rfl rfl rfl rfl rfl rfl (by show 1 ≤ 2; decide) ?_)
      refine WOps.nil ⟨(), trivial, Ent.trans (Ent.ofH ?_) (Ent.el ⟨rfl, rfl, rfl, rfl, rfl, rfl, rfl, trivial⟩)⟩
      rw [if_pos h]; rfl
  intro _ _
  generalize hna : (if k ≠ 3 then a + 1 else a : Nat) = na
  refine LWp.seq (LWp.seq ?_)
  by_cases h1 : F.length < na
  · have g1 : decide ((na : Int) > ((F.map fun s => [Str s]).length : Int)) = true := decide_eq_true (by omega)
    refine LWp.dd (gs := [(34, true)]) (hs := [.at 0]) hmix rfl (by kernel_rfl) (by (repeat' (with_reducible apply And.intro)); (all_goals try first | (with_reducible exact trivial) | (with_reducible rfl) | (with_reducible assumption) | ((with_reducible apply isB); first | exact rfl | exact beq_self_eq_true _))) ?_
    refine LWp.ite (b := true) rfl (fun _ => ?_) (fun h => by cases h)
    exact bad2 (c := [I 0, I 0]) (fun _ _ h => h) (by rw [← hR]; exact stepR_over hk ha hb (.inl (hna ▸ h1))) rfl rfl rfl
  have g1 : decide ((na : Int) > ((F.map fun s => [Str s]).length : Int)) = false := decide_eq_false (by omega)
  by_cases h2 : S.length < nb
  · have g2 : decide ((nb : Int) > ((S.map fun s => [Str s]).length : Int)) = true := decide_eq_true (by omega)
    refine LWp.dd (gs := [(34, false)]) (hs := [.at 0, .at 0]) hmix rfl (by kernel_rfl) (by (repeat' (with_reducible apply And.intro)); (all_goals try first | (with_reducible exact trivial) | (with_reducible rfl) | (with_reducible assumption) | ((with_reducible apply isB); first | exact rfl | exact beq_self_eq_true _))) ?_
    refine LWp.ite (b := true) (by show B _ = B _; exact congrArg B g2) (fun _ => ?_) (fun h => by cases h)
    exact bad2 (c := [I 0, I 0]) (fun _ _ h => h) (by rw [← hR]; exact stepR_over hk ha hb (.inr (hnb ▸ h2))) rfl rfl rfl
  have g2 : decide ((nb : Int) > ((S.map fun s => [Str s]).length : Int)) = false := decide_eq_false (by omega)
  refine LWp.dd (gs := [(34, false)]) (hs := [.at 0, .at 0]) hmix rfl (by kernel_rfl) (by (repeat' (with_reducible apply And.intro)); (all_goals try first | (with_reducible exact trivial) | (with_reducible rfl) | (with_reducible assumption) | ((with_reducible apply isB); first | exact rfl | exact beq_self_eq_true _))) ?_
  refine LWp.ite (b := false) (by show B _ = B _; exact congrArg B g2) (fun h => by cases h) (fun _ => LWp.skip ?_)
  have fin : ∀ (c : Int) (env : Env), R = (na, nb, c) → env 6 = .lbox 118 [I 0, I 0] → env 9 = .po b9 0 → env 10 = I c → LWp Try.prog none 61 (.seq (.ops [⟨some 59, none, .load 118 (tm 9) (some 2)⟩, ⟨some 60, none, .mov (tm 10)⟩, ⟨none, none, .store 118 (tm 6) (tm 59) 2⟩, ⟨some 7, none, .mov (tm 60)⟩]) .ret) (retP Try.prog [.cell 6 118, .tmp 7] (.tup [placeV R.1 R.2.1, I R.2.2])) env [(b9, .cells 118 [I na, I nb])] [] := by
    intro c env hr h6 h9 h10
    refine LWp.ent (Ent.el (l := [(6, .lbox 118 [I 0, I 0]), (9, .po b9 0), (10, I c)]) ⟨h6, h9, h10, trivial⟩) ?_
    refine LWp.sx (gs := []) (hs := [.at 0]) rfl ⟨rfl, ⟨rfl, rfl, rfl, by show 2 ≤ 2; decide⟩, trivial⟩ ?_
    refine LWp.ent (Ent.freezeLbox (t := 6) rfl) ?_
    rw [hr]
    exact LWp.ret (retT (.inr rfl) (.many (by decide) ⟨.cellI (n := some 2) rfl (by kernel_rfl) rfl, .tmp rfl rfl, trivial⟩))
  refine LWp.seq (LWp.seq ?_)
  match k, hk with
  | 0, _ =>
    obtain ⟨w, hw⟩ := ex_get (l := F) (k := a) (by simp at hna; omega)
    obtain ⟨s, hs⟩ := ex_get (l := S) (k := b) (by simp at hnb; omega)
    have hfi := fits_ev F S bm a b w s hw hs
    refine LWp.x (gs := [(47, true)]) (hs := []) rfl (by (repeat' (with_reducible apply And.intro)); (all_goals try first | (with_reducible exact trivial) | (with_reducible rfl) | (with_reducible assumption) | ((with_reducible apply isB); first | exact rfl | exact beq_self_eq_true _))) ?_
    refine LWp.ite (b := true) rfl (fun _ => ?_) (fun h => by cases h)
    refine LWp.seq (LWp.seq ?_)
    by_cases hf : fitB s w = true
    · rw [hf] at hfi
      have hR' : R = (na, nb, 0) := by rw [← hR, ← hna, ← hnb]; simp [stepR, hw, hs, hf]
      refine LWp.x (gs := []) (hs := [.ret (B true)]) rfl (by (repeat' (with_reducible apply And.intro)); (all_goals try first | (with_reducible exact trivial) | (with_reducible rfl) | (with_reducible assumption) | ((with_reducible apply isB); first | exact rfl | exact beq_self_eq_true _)); exact hfi) ?_
      refine LWp.ite (b := false) rfl (fun h => by cases h) (fun _ => LWp.skip ?_)
      refine LWp.x (gs := []) (hs := []) rfl trivial ?_
      refine fin 0 _ hR' ?_ ?_ ?_ <;> rfl
    · have hf : fitB s w = false := by simpa using hf
      rw [hf] at hfi
      have hR' : R = (a, b, -1) := by rw [← hR]; simp [stepR, hw, hs, hf]
      refine LWp.x (gs := []) (hs := [.ret (B false)]) rfl (by (repeat' (with_reducible apply And.intro)); (all_goals try first | (with_reducible exact trivial) | (with_reducible rfl) | (with_reducible assumption) | ((with_reducible apply isB); first | exact rfl | exact beq_self_eq_true _)); exact hfi) ?_
      refine LWp.ite (b := true) rfl (fun _ => ?_) (fun h => by cases h)
      exact bad (c := [I 0, I 0]) (fun _ _ h => h) hR' rfl rfl rfl
  | 1, _ =>
    obtain ⟨w, hw⟩ := ex_get (l := F) (k := a) (by simp at hna; omega)
    obtain ⟨s, hs⟩ := ex_get (l := S) (k := b) (by simp at hnb; omega)
    have hfi := fits_ev F S bm a b w s hw hs
    refine LWp.x (gs := [(47, false)]) (hs := []) rfl (by (repeat' (with_reducible apply And.intro)); (all_goals try first | (with_reducible exact trivial) | (with_reducible rfl) | (with_reducible assumption) | ((with_reducible apply isB); first | exact rfl | exact beq_self_eq_true _))) ?_
    refine LWp.ite (b := true) rfl (fun _ => ?_) (fun h => by cases h)
    refine LWp.seq (LWp.seq ?_)
    by_cases hf : fitB s w = true
    · rw [hf] at hfi
      have hR' : R = (a, b, -1) := by rw [← hR]; simp [stepR, hw, hs, hf]
      refine LWp.x (gs := []) (hs := [.ret (B true)]) rfl (by (repeat' (with_reducible apply And.intro)); (all_goals try first | (with_reducible exact trivial) | (with_reducible rfl) | (with_reducible assumption) | ((with_reducible apply isB); first | exact rfl | exact beq_self_eq_true _)); exact hfi) ?_
      refine LWp.ite (b := true) rfl (fun _ => ?_) (fun h => by cases h)
      exact bad (c := [I 0, I 0]) (fun _ _ h => h) hR' rfl rfl rfl
    · have hf : fitB s w = false := by simpa using hf
      rw [hf] at hfi
      have hR' : R = (na, nb, 1) := by rw [← hR, ← hna, ← hnb]; simp [stepR, hw, hs, hf]
      refine LWp.x (gs := []) (hs := [.ret (B false)]) rfl (by (repeat' (with_reducible apply And.intro)); (all_goals try first | (with_reducible exact trivial) | (with_reducible rfl) | (with_reducible assumption) | ((with_reducible apply isB); first | exact rfl | exact beq_self_eq_true _)); exact hfi) ?_
      refine LWp.ite (b := false) rfl (fun h => by cases h) (fun _ => LWp.skip ?_)
      refine LWp.x (gs := []) (hs := []) rfl trivial ?_
      refine fin 1 _ hR' ?_ ?_ ?_ <;> rfl
  | 2, _ =>
    obtain ⟨w, hw⟩ := ex_get (l := F) (k := a) (by simp at hna; omega)
    have hR' : R = (na, nb, 1) := by rw [← hR, ← hna, ← hnb]; simp [stepR, hw]
    refine LWp.x (gs := [(47, false)]) (hs := []) rfl (by (repeat' (with_reducible apply And.intro)); (all_goals try first | (with_reducible exact trivial) | (with_reducible rfl) | (with_reducible assumption) | ((with_reducible apply isB); first | exact rfl | exact beq_self_eq_true _))) ?_
    refine LWp.ite (b := false) rfl (fun h => by cases h) (fun _ => LWp.skip ?_)
    refine fin 1 _ hR' ?_ ?_ ?_ <;> rfl
  | 3, _ =>
    obtain ⟨s, hs⟩ := ex_get (l := S) (k := b) (by simp at hnb; omega)
    have hR' : R = (na, nb, 1) := by rw [← hR, ← hna, ← hnb]; simp [stepR, hs]
    refine LWp.x (gs := [(47, false)]) (hs := []) rfl (by (repeat' (with_reducible apply And.intro)); (all_goals try first | (with_reducible exact trivial) | (with_reducible rfl) | (with_reducible assumption) | ((with_reducible apply isB); first | exact rfl | exact beq_self_eq_true _))) ?_
    refine LWp.ite (b := false) rfl (fun h => by cases h) (fun _ => LWp.skip ?_)
    refine fin 1 _ hR' ?_ ?_ ?_ <;> rfl
end Go.Px

namespace Go.Px
open Go.Proofs
def leastG (of_ : Int → Int) : List Int → Int × Int → Int × Int
  | [], r => r
  | x :: l, r => leastG of_ l (if 0 ≤ of_ x ∧ (r.2 < 0 ∨ of_ x < r.2) then (x, of_ x) else r)
abbrev leastF (l : List Int) (of_ : Int → Int) : Int × Int := leastG of_ l (0, -1)
theorem least_ev {X : Type} (T : X → Heap) (l : List Int) (g : Nat) (caps : List AV) (of_ : Int → Int) (hcb : ∀ x i, i ∈ l → EvR Try.prog g (I i :: caps) (T x) (fun r Ho => r = I (of_ i) ∧ ∃ x', Ho = T x')) (x : X) :
    EvR Try.prog 89 [ints l, .fn (.func g) [] caps] (T x) (fun r Ho => r = .tup [I (leastF l of_).1, I (leastF l of_).2] ∧ ∃ x', Ho = T x') := by
  have hll : (l.map fun x => [I x]).length = l.length := List.length_map _
  refine EvR.intro fn89 ?_
  refine LWp.slLen 0 rfl fun hl63 => ?_
  refine LWp.sx (gs := []) (hs := []) rfl trivial ?_
  refine LWp.sx (gs := []) (hs := []) rfl trivial ?_
  refine LWp.seq (LWp.seq ?_)
  refine LWp.x (gs := []) (hs := []) rfl trivial ?_
  refine LWp.blockT (Y := X) (fun _ => True) (fun _ => el [(4, I (leastF l of_).1), (5, I (leastF l of_).2)]) (fun y => T y) (fun _ => []) ?_ ?_
  · refine LWp.loopN (X := Nat × (Int × Int) × X) (fun z => z.1 ≤ l.length ∧ leastF l of_ = leastG of_ (l.drop z.1) z.2.1) (fun z => el [(1, .fn (.func g) [] caps), (4, I z.2.1.1), (5, I z.2.1.2), (9, ints l), (10, I l.length), (11, I z.1)]) (fun z => T z.2.2) (fun _ => []) (fun z => l.length - z.1) (0, (0, -1), x) ⟨by omega, rfl⟩
      (Ent.el ⟨rfl, rfl, rfl, rfl, by show I _ = I _; rw [hll], rfl, trivial⟩) ?_
    rintro ⟨k, ⟨bst, n⟩, y⟩ ⟨hk, hi⟩
    simp only at hk hi
    refine LWp.ent (Ent.el (l := [(1, .fn (.func g) [] caps), (4, I bst), (5, I n), (9, ints l), (10, I l.length), (11, I k)]) ⟨rfl, rfl, rfl, rfl, rfl, rfl, trivial⟩) ?_
    refine LWp.sx (gs := []) (hs := []) rfl trivial ?_
    refine LWp.seq (LWp.ite rfl (fun he => ?_) (fun he => ?_))
    · simp only [decide_eq_true_eq, Int.ofNat_lt] at he
      obtain ⟨i, hx⟩ := ex_get he
      rw [drop_cons hx, leastG] at hi
      refine LWp.skip ?_
      refine LWp.blockX (Y := (Int × Int) × X) (fun z => leastF l of_ = leastG of_ (l.drop (k + 1)) z.1) (fun z => el [(1, .fn (.func g) [] caps), (4, I z.1.1), (5, I z.1.2), (9, ints l), (10, I l.length), (11, I k)]) (fun z => T z.2) (fun _ => []) ?_ ?_
      · refine LWp.sx (gs := []) (hs := [.cells [I i]]) rfl ⟨⟨by omega, by simp [hx]⟩, trivial⟩ ?_
        refine LWp.seq (LWp.ops ?_)
        refine WOps.xn (gs := []) (hs := []) 2 rfl rfl trivial ?_
        refine WOps.cons (Op1.callvR (Hin := T y) (H0 := []) rfl (hcb y i (List.mem_of_getElem? hx)) rfl rfl (SubL.refl _) (by simp) ?_)
        rintro res Hout ⟨rfl, y', rfl⟩
        refine WOps.xd (gs := []) (hs := []) rfl trivial ?_
        refine LWp.ent (Ent.trans (Ent.ofH (H' := T y') (by simp)) (Ent.el (l := [(1, .fn (.func g) [] caps), (4, I bst), (5, I n), (7, I i), (8, I (of_ i)), (9, ints l), (10, I l.length), (11, I k)]) ⟨rfl, rfl, rfl, rfl, rfl, rfl, rfl, rfl, trivial⟩)) ?_
        generalize of_ i = v at hi
        by_cases h0 : 0 ≤ v
        · have g0 : decide (v ≥ 0) = true := decide_eq_true h0
          by_cases h1 : n < 0
          · have g1 : decide (n < 0) = true := decide_eq_true h1
            rw [if_pos ⟨h0, .inl h1⟩] at hi
            refine LWp.sx (gs := [(20, true), (23, true)]) (hs := []) rfl (by (repeat' (with_reducible apply And.intro)); (all_goals try first | (with_reducible exact trivial) | (with_reducible rfl) | (with_reducible assumption) | ((with_reducible apply isB); first | exact rfl | exact beq_self_eq_true _))) ?_
            refine LWp.ite (b := true) rfl (fun _ => ?_) (fun h => by cases h)
            refine LWp.x (gs := []) (hs := []) rfl trivial ?_
            exact ⟨((i, v), y'), hi, Ent.el ⟨rfl, rfl, rfl, rfl, rfl, rfl, trivial⟩⟩
          · have g1 : decide (n < 0) = false := decide_eq_false h1
            refine LWp.sx (gs := [(20, true), (23, false)]) (hs := []) rfl (by (repeat' (with_reducible apply And.intro)); (all_goals try first | (with_reducible exact trivial) | (with_reducible rfl) | (with_reducible assumption) | ((with_reducible apply isB); first | exact rfl | exact beq_self_eq_true _))) ?_
            by_cases h2 : v < n
            · rw [if_pos ⟨h0, .inr h2⟩] at hi
              refine LWp.ite (b := true) (by show B _ = B _; exact congrArg B (decide_eq_true h2)) (fun _ => ?_) (fun h => by cases h)
              refine LWp.x (gs := []) (hs := []) rfl trivial ?_
              exact ⟨((i, v), y'), hi, Ent.el ⟨rfl, rfl, rfl, rfl, rfl, rfl, trivial⟩⟩
            · rw [if_neg (fun h => h.2.elim h1 h2)] at hi
              refine LWp.ite (b := false) (by show B _ = B _; exact congrArg B (decide_eq_false h2)) (fun h => by cases h) (fun _ => LWp.skip ?_)
              exact ⟨((bst, n), y'), hi, Ent.el ⟨rfl, rfl, rfl, rfl, rfl, rfl, trivial⟩⟩
        · have g0 : decide (v ≥ 0) = false := decide_eq_false h0
          rw [if_neg (fun h => h0 h.1)] at hi
          refine LWp.sx (gs := [(20, false)]) (hs := []) rfl (by (repeat' (with_reducible apply And.intro)); (all_goals try first | (with_reducible exact trivial) | (with_reducible rfl) | (with_reducible assumption) | ((with_reducible apply isB); first | exact rfl | exact beq_self_eq_true _))) ?_
          refine LWp.ite (b := false) rfl (fun h => by cases h) (fun _ => LWp.skip ?_)
          exact ⟨((bst, n), y'), hi, Ent.el ⟨rfl, rfl, rfl, rfl, rfl, rfl, trivial⟩⟩
      · rintro ⟨r', y'⟩ h
        refine LWp.x (gs := []) (hs := []) rfl ⟨by omega, trivial⟩ ?_
        exact ⟨(k + 1, r', y'), ⟨by simp only; omega, h⟩, by simp only; omega, Ent.el ⟨rfl, rfl, rfl, rfl, rfl, rfl, trivial⟩⟩
    · simp only [decide_eq_false_iff_not, Int.ofNat_lt] at he
      refine LWp.exit ⟨y, trivial, Ent.el ⟨?_, ?_, trivial⟩⟩
      · rw [hi, List.drop_eq_nil_of_le (by omega)]; rfl
      · rw [hi, List.drop_eq_nil_of_le (by omega)]; rfl
  · intro y _
    refine LWp.sx (gs := []) (hs := []) rfl trivial ?_
    exact LWp.ret ⟨.inr rfl, _, .tup [I (leastF l of_).1, I (leastF l of_).2], T y, rfl, .many (by decide) ⟨.tmp rfl rfl, .tmp rfl rfl, trivial⟩, ⟨rfl, y, rfl⟩, List.Sublist.refl _⟩
/-- How many corrections are left behind a mark of a kind. -/
def ofK (F S : List Wd) (a b k : Nat) : Int := if (stepR F S k a b).2.2 < 0 then -1 else (stepR F S k a b).2.2 + (far (F.drop (stepR F S k a b).1) (S.drop (stepR F S k a b).2.1) : Nat)
def pickL (r : Int × Int) (k v : Int) : Int × Int := if 0 ≤ v ∧ (r.2 < 0 ∨ v < r.2) then (k, v) else r
theorem pickL_no {r : Int × Int} {k v : Int} (h : v < 0 ∨ (0 ≤ r.2 ∧ r.2 ≤ v)) : pickL r k v = r := by
  unfold pickL
  rw [if_neg]
  rintro ⟨h1, h2⟩
  omega
theorem pickL_yes {r : Int × Int} {k v : Int} (h : 0 ≤ v) (g : r.2 < 0 ∨ v < r.2) : pickL r k v = (k, v) := by
  unfold pickL
  rw [if_pos ⟨h, g⟩]
theorem least4_fit (x0 x2 x3 : Nat) : pickL (pickL (pickL (pickL (0, -1) 0 x0) 1 (-1)) 2 (1 + x2)) 3 (1 + x3) =
    (((if x0 ≤ 1 + x2 ∧ x0 ≤ 1 + x3 then 0 else if x2 ≤ x3 then 2 else 3 : Nat) : Int), ((min x0 (min (1 + x2) (1 + x3)) : Nat) : Int)) := by
  rw [pickL_yes (r := (0, -1)) (k := 0) (v := x0) (by omega) (.inl (by decide)), pickL_no (r := (0, (x0 : Int))) (k := 1) (v := -1) (.inl (by decide))]
  by_cases h2 : 1 + x2 < x0
  · rw [pickL_yes (r := (0, (x0 : Int))) (k := 2) (v := 1 + x2) (by omega) (.inr (by simp only; omega))]
    by_cases h3 : x3 < x2
    · rw [pickL_yes (r := (2, (1 : Int) + x2)) (k := 3) (v := 1 + x3) (by omega) (.inr (by simp only; omega)), if_neg (by omega), if_neg (by omega)]
      simp only [Prod.mk.injEq]; omega
    · rw [pickL_no (r := (2, (1 : Int) + x2)) (k := 3) (v := 1 + x3) (.inr (by simp only; omega)), if_neg (by omega), if_pos (by omega)]
      simp only [Prod.mk.injEq]; omega
  · rw [pickL_no (r := (0, (x0 : Int))) (k := 2) (v := 1 + x2) (.inr (by simp only; omega))]
    by_cases h3 : 1 + x3 < x0
    · rw [pickL_yes (r := (0, (x0 : Int))) (k := 3) (v := 1 + x3) (by omega) (.inr (by simp only; omega)), if_neg (by omega), if_neg (by omega)]
      simp only [Prod.mk.injEq]; omega
    · rw [pickL_no (r := (0, (x0 : Int))) (k := 3) (v := 1 + x3) (.inr (by simp only; omega)), if_pos (by omega)]
      simp only [Prod.mk.injEq]; omega
theorem least4_not (x0 x2 x3 : Nat) : pickL (pickL (pickL (pickL (0, -1) 0 (-1)) 1 (1 + x0)) 2 (1 + x2)) 3 (1 + x3) =
    (((if x0 ≤ x2 ∧ x0 ≤ x3 then 1 else if x2 ≤ x3 then 2 else 3 : Nat) : Int), ((min (1 + x0) (min (1 + x2) (1 + x3)) : Nat) : Int)) := by
  rw [pickL_no (r := (0, -1)) (k := 0) (v := -1) (.inl (by decide)), pickL_yes (r := (0, -1)) (k := 1) (v := 1 + x0) (by omega) (.inl (by decide))]
  by_cases h2 : x2 < x0
  · rw [pickL_yes (r := (1, (1 : Int) + x0)) (k := 2) (v := 1 + x2) (by omega) (.inr (by simp only; omega))]
    by_cases h3 : x3 < x2
    · rw [pickL_yes (r := (2, (1 : Int) + x2)) (k := 3) (v := 1 + x3) (by omega) (.inr (by simp only; omega)), if_neg (by omega), if_neg (by omega)]
      simp only [Prod.mk.injEq]; omega
    · rw [pickL_no (r := (2, (1 : Int) + x2)) (k := 3) (v := 1 + x3) (.inr (by simp only; omega)), if_neg (by omega), if_pos (by omega)]
      simp only [Prod.mk.injEq]; omega
  · rw [pickL_no (r := (1, (1 : Int) + x0)) (k := 2) (v := 1 + x2) (.inr (by simp only; omega))]
    by_cases h3 : x3 < x0
    · rw [pickL_yes (r := (1, (1 : Int) + x0)) (k := 3) (v := 1 + x3) (by omega) (.inr (by simp only; omega)), if_neg (by omega), if_neg (by omega)]
      simp only [Prod.mk.injEq]; omega
    · rw [pickL_no (r := (1, (1 : Int) + x0)) (k := 3) (v := 1 + x3) (.inr (by simp only; omega)), if_pos (by omega)]
      simp only [Prod.mk.injEq]; omega
theorem left_plain {F S : List Wd} {a b : Nat} (ha : a ≤ F.length) (hb : b ≤ S.length) (h : ¬ (a = F.length ∧ b = S.length)) :
    leastF [0, 1, 2, 3] (fun k => ofK F S a b k.toNat) = (((kindF (F.drop a) (S.drop b) : Nat) : Int), ((far (F.drop a) (S.drop b) : Nat) : Int)) := by
  show pickL (pickL (pickL (pickL (0, -1) 0 (ofK F S a b 0)) 1 (ofK F S a b 1)) 2 (ofK F S a b 2)) 3 (ofK F S a b 3) = _
  cases hF : F[a]? with
  | none =>
    have ha' : a = F.length := by
      have := List.getElem?_eq_none_iff.1 hF
      omega
    obtain ⟨s, hS⟩ := ex_get (l := S) (k := b) (by omega)
    have hd : F.drop a = [] := by rw [ha', List.drop_length]
    have e0 : ofK F S a b 0 = -1 := by simp [ofK, stepR, hF]
    have e1 : ofK F S a b 1 = -1 := by simp [ofK, stepR, hF]
    have e2 : ofK F S a b 2 = -1 := by simp [ofK, stepR, hF]
    have e3 : ofK F S a b 3 = 1 + ((S.drop (b + 1)).length : Nat) := by simp [ofK, stepR, hF, hS, hd, far]
    rw [e0, e1, e2, e3, hd, drop_cons hS, pickL_no (r := (0, -1)) (k := 0) (v := -1) (.inl (by decide)), pickL_no (r := (0, -1)) (k := 1) (v := -1) (.inl (by decide)), pickL_no (r := (0, -1)) (k := 2) (v := -1) (.inl (by decide)), pickL_yes (by omega) (.inl (by decide))]
    simp only [kindF, far, List.length_cons, Prod.mk.injEq]
    omega
  | some w =>
    cases hS : S[b]? with
    | none =>
      have hb' : b = S.length := by
        have := List.getElem?_eq_none_iff.1 hS
        omega
      have hd : S.drop b = [] := by rw [hb', List.drop_length]
      have e0 : ofK F S a b 0 = -1 := by simp [ofK, stepR, hF, hS]
      have e1 : ofK F S a b 1 = -1 := by simp [ofK, stepR, hF, hS]
      have e2 : ofK F S a b 2 = 1 + ((F.drop (a + 1)).length : Nat) := by simp [ofK, stepR, hF, hd, far_nil]
      have e3 : ofK F S a b 3 = -1 := by simp [ofK, stepR, hS]
      rw [e0, e1, e2, e3, hd, drop_cons hF, far_nil, pickL_no (r := (0, -1)) (k := 0) (v := -1) (.inl (by decide)), pickL_no (r := (0, -1)) (k := 1) (v := -1) (.inl (by decide)), pickL_yes (r := (0, -1)) (k := 2) (by omega) (.inl (by decide)), pickL_no (k := 3) (v := -1) (.inl (by decide))]
      simp only [kindF, List.length_cons, Prod.mk.injEq]
      omega
    | some s =>
      have e2 : ofK F S a b 2 = 1 + (far (F.drop (a + 1)) (S.drop b) : Nat) := by simp [ofK, stepR, hF]
      have e3 : ofK F S a b 3 = 1 + (far (F.drop a) (S.drop (b + 1)) : Nat) := by simp [ofK, stepR, hS]
      have hFd := drop_cons hF
      have hSd := drop_cons hS
      have hk : kindF (w :: F.drop (a + 1)) (s :: S.drop (b + 1)) = if fitB s w = true then (if far (F.drop (a + 1)) (S.drop (b + 1)) ≤ 1 + far (F.drop (a + 1)) (s :: S.drop (b + 1)) ∧ far (F.drop (a + 1)) (S.drop (b + 1)) ≤ 1 + far (w :: F.drop (a + 1)) (S.drop (b + 1)) then 0 else if far (F.drop (a + 1)) (s :: S.drop (b + 1)) ≤ far (w :: F.drop (a + 1)) (S.drop (b + 1)) then 2 else 3)
          else (if far (F.drop (a + 1)) (S.drop (b + 1)) ≤ far (F.drop (a + 1)) (s :: S.drop (b + 1)) ∧ far (F.drop (a + 1)) (S.drop (b + 1)) ≤ far (w :: F.drop (a + 1)) (S.drop (b + 1)) then 1 else if far (F.drop (a + 1)) (s :: S.drop (b + 1)) ≤ far (w :: F.drop (a + 1)) (S.drop (b + 1)) then 2 else 3) := rfl
      have hf := far_cons w (F.drop (a + 1)) s (S.drop (b + 1))
      rw [← hFd, ← hSd] at hk hf
      by_cases hfit : fitB s w = true
      · have e0 : ofK F S a b 0 = (far (F.drop (a + 1)) (S.drop (b + 1)) : Nat) := by simp [ofK, stepR, hF, hS, hfit]
        have e1 : ofK F S a b 1 = -1 := by simp [ofK, stepR, hF, hS, hfit]
        rw [if_pos hfit] at hk hf
        rw [e0, e1, e2, e3, hk, hf]
        exact least4_fit _ _ _
      · have e0 : ofK F S a b 0 = -1 := by simp [ofK, stepR, hF, hS, hfit]
        have e1 : ofK F S a b 1 = 1 + (far (F.drop (a + 1)) (S.drop (b + 1)) : Nat) := by simp [ofK, stepR, hF, hS, hfit]
        rw [if_neg hfit] at hk hf
        rw [e0, e1, e2, e3, hk, hf]
        exact least4_not _ _ _
end Go.Px

namespace Go.Px
open Go.Proofs
theorem listen_ev (F S : List Wd) : EvR Try.prog 79 [strs F, strs S] [] (fun r Ho => ∃ bm, r = readerV F S bm ∧ Ho = [(bm, .map [])]) := by
  refine EvR.intro fn79 ?_
  refine LWp.sx (gs := []) (hs := []) rfl trivial ?_
  refine LWp.seq (LWp.ops ?_)
  refine WOps.xn (gs := []) (hs := []) 2 rfl rfl trivial ?_
  refine WOps.cons (Op1.mmap (fun bm => ?_))
  refine WOps.xd (gs := []) (hs := [.ice]) rfl ⟨⟨rfl, rfl⟩, trivial⟩ ?_
  exact LWp.ret ⟨.inr rfl, _, _, _, rfl, .one (.tmp rfl rfl), ⟨bm, rfl, rfl⟩, List.Sublist.refl _⟩
abbrev placeK' (p : Nat × Nat) : Value := .agg #[.int .i64 p.1, .int .i64 p.2]
def farAt (F S : List Wd) (p : Nat × Nat) : Nat := far (F.drop p.1) (S.drop p.2)
/-- What is known of some places. -/
abbrev encM (F S : List Wd) (ks : List (Nat × Nat)) : List (Value × AV) := ks.map fun p => (placeK' p, I (farAt F S p))
def KS (F S : List Wd) (ks : List (Nat × Nat)) : Prop := ∀ p ∈ ks, p.1 ≤ F.length ∧ p.2 ≤ S.length
theorem placeK_wide {F S : List Wd} (hF : F.length ≤ 1000) (hS : S.length ≤ 1000) {p : Nat × Nat} (h : p.1 ≤ F.length ∧ p.2 ≤ S.length) : WideKey Try.prog 3 118 (placeK' p) :=
  placeW (wf_i64 (by omega) (by omega)) (wf_i64 (by omega) (by omega))
theorem encM_ks {F S : List Wd} (hF : F.length ≤ 1000) (hS : S.length ≤ 1000) {ks : List (Nat × Nat)} (h : KS F S ks) : ∀ e ∈ encM F S ks, WideKey Try.prog 3 118 e.1 := by
  intro e he
  obtain ⟨p, hp, rfl⟩ := List.mem_map.1 he
  exact placeK_wide hF hS (h p hp)
theorem placeK_inj {p q : Nat × Nat} (h : placeK' p = placeK' q) : p = q := by
  obtain ⟨a, b⟩ := p
  obtain ⟨c, d⟩ := q
  simp only [placeK', Value.agg.injEq] at h
  have := congrArg Array.toList h
  simp only [List.cons.injEq, Value.int.injEq, true_and, and_true] at this
  simp only [Prod.mk.injEq]
  omega
theorem encM_at (F S : List Wd) (ks : List (Nat × Nat)) (p : Nat × Nat) : (p ∉ ks ∧ MAt (encM F S ks) (placeK' p) none) ∨ (∃ j, ks[j]? = some p ∧ MAt (encM F S ks) (placeK' p) (some (j, I (farAt F S p)))) := by
  by_cases h : p ∈ ks
  · right
    obtain ⟨j, hj⟩ := List.mem_iff_getElem?.1 h
    exact ⟨j, hj, .some (by rw [List.getElem?_map, hj]; rfl)⟩
  · left
    refine ⟨h, .none ?_⟩
    intro e he heq
    obtain ⟨q, hq, rfl⟩ := List.mem_map.1 he
    have := placeK_inj heq
    subst this
    exact h hq
theorem far_le (F S : List Wd) : far F S ≤ F.length + S.length := by
  induction F with
  | nil => simp [far]
  | cons w F ih =>
    have := far_drop w F S
    simp; omega
section
variable (F S : List Wd) (bm : Nat)
abbrev mapH (ks : List (Nat × Nat)) : Heap := [(bm, .map (encM F S ks))]
/-- What 'corrections' is to do at a place. -/
def CorrAt (a b : Nat) : Prop := ∀ ks, KS F S ks → EvR Try.prog 81 [readerV F S bm, placeV a b] (mapH F S bm ks) (fun r Ho => r = I (farAt F S (a, b)) ∧ ∃ ks', KS F S ks' ∧ Ho = mapH F S bm ks')
def LeftAt (a b : Nat) : Prop := ∀ ks, KS F S ks → EvR Try.prog 80 [readerV F S bm, placeV a b] (mapH F S bm ks) (fun r Ho => r = .tup [I (farAt F S (a, b)), I (kindF (F.drop a) (S.drop b))] ∧ ∃ ks', KS F S ks' ∧ Ho = mapH F S bm ks')
variable {F S bm} (hF : F.length ≤ 1000) (hS : S.length ≤ 1000)
include hF hS
theorem corr_ev {a b : Nat} (ha : a ≤ F.length) (hb : b ≤ S.length) (hl : LeftAt F S bm a b) : CorrAt F S bm a b := by
  intro ks hks
  have hkw := placeK_wide hF hS (p := (a, b)) ⟨ha, hb⟩
  refine EvR.intro fn81 ?_
  refine LWp.sx (gs := []) (hs := [.ice]) rfl ⟨⟨rfl, rfl⟩, trivial⟩ ?_
  have hz : (Try.prog.info? 3).bind (·.zero) = some (.int .i64 0) := by kernel_rfl
  rcases encM_at F S ks (a, b) with ⟨hn, hat⟩ | ⟨j, hj, hat⟩
  · refine LWp.seq (LWp.seq ?_)
    have hlk : ∀ (env0 : Env), env0 13 = .mo bm → valOf (env0 14) = some (placeK' (a, b)) → ∀ (r : Option Nat) (N : Nat) (D : List Nat), Q1 Try.prog r N (.lookup 170 (tm 13) (tm 14) true 118 3 [.int .i64 0]) (some 15) env0 (mapH F S bm ks) D [(15, .tup [I 0, B false])] := by
      intro env0 h1 h2 r N D
      exact Op1.lookupO (n := 0) placeK hz h1 rfl h2 hkw (encM_ks hF hS hks) hat ⟨rfl, rfl, rfl⟩
    refine LWp.dd (gs := []) (hs := [.op (.tup [I 0, B false])]) hmix rfl (by kernel_rfl) (by refine ⟨hlk _ rfl rfl, trivial⟩) ?_
    refine LWp.seq ?_
    refine LWp.x (gs := []) (hs := []) rfl trivial ?_
    refine LWp.ite (b := false) rfl (fun h => by cases h) (fun _ => LWp.skip ?_)
    refine LWp.seq (LWp.ops ?_)
    refine WOps.xn (gs := []) (hs := []) 2 rfl rfl trivial ?_
    refine WOps.cons (Op1.callR (Hin := mapH F S bm ks) (H0 := []) (hl ks hks) rfl rfl (SubL.refl _) (by simp) ?_)
    rintro res Hout ⟨rfl, ks', hks', rfl⟩
    refine WOps.xd (gs := []) (hs := []) rfl trivial ?_
    refine LWp.ent (Ent.ofH (H' := mapH F S bm ks') (by simp)) ?_
    have hat' : ∃ o, MAt (encM F S ks') (placeK' (a, b)) o ∧ ∃ ks2, KS F S ks2 ∧ mput (encM F S ks') (placeK' (a, b)) (I (farAt F S (a, b))) o = encM F S ks2 := by
      rcases encM_at F S ks' (a, b) with ⟨hn, hat⟩ | ⟨j, hj, hat⟩
      · refine ⟨_, hat, ks' ++ [(a, b)], ?_, ?_⟩
        · intro p hp
          rcases List.mem_append.1 hp with hp | hp
          · exact hks' p hp
          · rw [List.mem_singleton] at hp; subst hp; exact ⟨ha, hb⟩
        · simp [mput, encM]
      · refine ⟨_, hat, ks', hks', ?_⟩
        show (encM F S ks').set j _ = _
        apply List.ext_getElem?
        intro i
        rw [List.getElem?_set]
        split
        · rename_i e
          subst e
          have hlt := (List.getElem?_eq_some_iff.1 hj).1
          rw [if_pos (by simpa using hlt)]
          unfold encM
          rw [List.getElem?_map, hj]; rfl
        · rfl
    obtain ⟨o, ho, ks2, hk2, hput⟩ := hat'
    refine LWp.seq (LWp.d (gs := []) (hs := []) hmix rfl (by kernel_rfl) trivial ?_)
    refine WOps.cons (Op1.mapup (n := 0) placeK rfl rfl (kv := placeK' (a, b)) rfl hkw (encM_ks hF hS hks') ho rfl rfl ?_)
    refine WOps.ent (Ent.ofH (H' := mapH F S bm ks2) ?_) ?_
    · show [(bm, HObj.map (mput (encM F S ks') (placeK' (a, b)) (I (farAt F S (a, b))) o))] = _
      rw [hput]
    refine WOps.nil ?_
    refine LWp.sx (gs := []) (hs := []) rfl trivial ?_
    exact LWp.ret ⟨.inr rfl, _, _, _, rfl, .one (.tmp rfl rfl), ⟨rfl, ks2, hk2, rfl⟩, List.Sublist.refl _⟩
  · refine LWp.seq (LWp.seq ?_)
    have hlk : ∀ (env0 : Env), env0 13 = .mo bm → valOf (env0 14) = some (placeK' (a, b)) → ∀ (r : Option Nat) (N : Nat) (D : List Nat), Q1 Try.prog r N (.lookup 170 (tm 13) (tm 14) true 118 3 [.int .i64 0]) (some 15) env0 (mapH F S bm ks) D [(15, .tup [I (farAt F S (a, b)), B true])] := by
      intro env0 h1 h2 r N D
      exact Op1.lookupO (n := 0) placeK hz h1 rfl h2 hkw (encM_ks hF hS hks) hat ⟨rfl, rfl, rfl⟩
    refine LWp.dd (gs := []) (hs := [.op (.tup [I (farAt F S (a, b)), B true])]) hmix rfl (by kernel_rfl) (by refine ⟨hlk _ rfl rfl, trivial⟩) ?_
    refine LWp.seq ?_
    refine LWp.x (gs := []) (hs := []) rfl trivial ?_
    refine LWp.ite (b := true) rfl (fun _ => ?_) (fun h => by cases h)
    refine LWp.sx (gs := []) (hs := []) rfl trivial ?_
    exact LWp.ret ⟨.inr rfl, _, _, _, rfl, .one (.tmp rfl rfl), ⟨rfl, ks, hks, rfl⟩, List.Sublist.refl _⟩
end
end Go.Px

namespace Go.Px
open Go.Proofs
theorem stepR_le {F S : List Wd} {k a b : Nat} (ha : a ≤ F.length) (hb : b ≤ S.length) : (stepR F S k a b).1 ≤ F.length ∧ (stepR F S k a b).2.1 ≤ S.length ∧ (stepR F S k a b).2.2 ≤ 1 ∧ (0 ≤ (stepR F S k a b).2.2 → a + b < (stepR F S k a b).1 + (stepR F S k a b).2.1) := by
  have h1 : ∀ w, F[a]? = some w → a + 1 ≤ F.length := fun w h => (List.getElem?_eq_some_iff.1 h).1
  have h2 : ∀ s, S[b]? = some s → b + 1 ≤ S.length := fun s h => (List.getElem?_eq_some_iff.1 h).1
  have hbad : (a, b, (-1 : Int)).1 ≤ F.length ∧ (a, b, (-1 : Int)).2.1 ≤ S.length ∧ (a, b, (-1 : Int)).2.2 ≤ 1 ∧ (0 ≤ (a, b, (-1 : Int)).2.2 → a + b < (a, b, (-1 : Int)).1 + (a, b, (-1 : Int)).2.1) :=
    ⟨ha, hb, by simp only; decide, fun h => absurd h (by simp only; decide)⟩
  unfold stepR
  split
  · rename_i w s hF hS
    have := h1 w hF
    have := h2 s hS
    split
    · exact ⟨by simp only; omega, by simp only; omega, by simp only; decide, fun _ => by simp only; omega⟩
    · exact hbad
  · rename_i w s hF hS
    have := h1 w hF
    have := h2 s hS
    split
    · exact hbad
    · exact ⟨by simp only; omega, by simp only; omega, by simp only; decide, fun _ => by simp only; omega⟩
  · obtain ⟨_, _⟩ := List.getElem?_eq_some_iff.1 (by assumption : F[a]? = some _)
    exact ⟨by simp only; omega, by simp only; omega, by simp only; decide, fun _ => by simp only; omega⟩
  · obtain ⟨_, _⟩ := List.getElem?_eq_some_iff.1 (by assumption : S[b]? = some _)
    exact ⟨by simp only; omega, by simp only; omega, by simp only; decide, fun _ => by simp only; omega⟩
  · exact hbad
section
variable {F S : List Wd} {bm : Nat} (hF : F.length ≤ 1000) (hS : S.length ≤ 1000)
include hF hS
theorem left1_ev {a b k : Nat} (hk : k ≤ 3) (ha : a ≤ F.length) (hb : b ≤ S.length) (hc : ∀ a' b', a' ≤ F.length → b' ≤ S.length → a + b < a' + b' → CorrAt F S bm a' b') (ks : List (Nat × Nat)) (hks : KS F S ks) :
    EvR Try.prog 116 [I k, .pi [readerV F S bm], .pi [I a, I b]] (mapH F S bm ks) (fun r Ho => r = I (ofK F S a b k) ∧ ∃ ks', KS F S ks' ∧ Ho = mapH F S bm ks') := by
  have hst := step_ev F S bm k a b hk ha hb hF hS
  obtain ⟨l1, l2, l3, l4⟩ := stepR_le (F := F) (S := S) (k := k) ha hb
  have hO : ofK F S a b k = if (stepR F S k a b).2.2 < 0 then -1 else (stepR F S k a b).2.2 + (farAt F S ((stepR F S k a b).1, (stepR F S k a b).2.1) : Nat) := rfl
  rw [hO]
  generalize (stepR F S k a b).1 = a' at hst l1 l4
  generalize (stepR F S k a b).2.1 = b' at hst l2 l4
  generalize (stepR F S k a b).2.2 = c at hst l3 l4
  refine EvR.intro fn116 ?_
  refine LWp.sx (gs := []) (hs := []) rfl trivial ?_
  refine LWp.sx (gs := []) (hs := [.ret (.tup [placeV a' b', I c]), .lin]) rfl ⟨hst, rfl, ⟨rfl, rfl, rfl, by show 2 ≤ 2; decide⟩, trivial⟩ ?_
  refine LWp.ent (Ent.freezeLbox (t := 5) rfl) ?_
  refine LWp.seq (LWp.seq ?_)
  refine LWp.x (gs := []) (hs := []) rfl trivial ?_
  by_cases h : c < 0
  · rw [if_pos h]
    refine LWp.ite (b := true) (by show B _ = B _; exact congrArg B (decide_eq_true h)) (fun _ => ?_) (fun h => by cases h)
    refine LWp.sx (gs := []) (hs := []) rfl trivial ?_
    exact LWp.ret ⟨.inr rfl, _, _, _, rfl, .one (.tmp rfl rfl), ⟨rfl, ks, hks, rfl⟩, List.Sublist.refl _⟩
  · rw [if_neg h]
    have hf := far_le (F.drop a') (S.drop b')
    rw [List.length_drop, List.length_drop] at hf
    have hcc := hc a' b' l1 l2 (l4 (by omega)) ks hks
    have hfa : farAt F S (a', b') = far (F.drop a') (S.drop b') := rfl
    refine LWp.ite (b := false) (by show B _ = B _; exact congrArg B (decide_eq_false h)) (fun h => by cases h) (fun _ => LWp.skip ?_)
    refine LWp.seq (LWp.ops ?_)
    refine WOps.xn (gs := []) (hs := []) 3 rfl rfl trivial ?_
    refine WOps.cons (Op1.callR (Hin := mapH F S bm ks) (H0 := []) hcc rfl rfl (SubL.refl _) (by simp) ?_)
    rintro res Hout ⟨rfl, ks', hks', rfl⟩
    refine WOps.ent (Ent.ofH (H' := mapH F S bm ks') (by simp)) ?_
    refine WOps.xd (gs := []) (hs := []) rfl ⟨by omega, trivial⟩ ?_
    exact LWp.ret ⟨.inr rfl, _, _, _, rfl, .one (.tmp rfl rfl), ⟨rfl, ks', hks', rfl⟩, List.Sublist.refl _⟩
theorem left_ev {a b : Nat} (ha : a ≤ F.length) (hb : b ≤ S.length) (hc : ∀ a' b', a' ≤ F.length → b' ≤ S.length → a + b < a' + b' → CorrAt F S bm a' b') : LeftAt F S bm a b := by
  intro ks hks
  have hFl : (F.map fun s => [Str s]).length = F.length := List.length_map _
  have hSl : (S.map fun s => [Str s]).length = S.length := List.length_map _
  have hop := fun {x y : Operand} {env : Env} {H : Heap} {t : Nat} => op_place (a := a) (b := b) (c := ((F.map fun s => [Str s]).length : Nat)) (d := ((S.map fun s => [Str s]).length : Nat)) (wf_i64 (by omega) (by omega)) (wf_i64 (by omega) (by omega)) (wf_i64 (by omega) (by omega)) (wf_i64 (by omega) (by omega)) (x := x) (y := y) (env := env) (H := H) (t := t)
  refine EvR.intro fn80 ?_
  refine LWp.sx (gs := []) (hs := [.ice, .ice]) rfl ⟨⟨rfl, rfl⟩, ⟨rfl, rfl⟩, trivial⟩ ?_
  refine LWp.seq (LWp.seq ?_)
  generalize hbb : (decide ((a : Int) = ((F.map fun s => [Str s]).length : Nat) ∧ (b : Int) = ((S.map fun s => [Str s]).length : Nat))) = bb at hop
  refine LWp.dd (gs := []) (hs := [.op (B bb)]) hmix rfl (by kernel_rfl) (by refine ⟨hop rfl rfl, trivial⟩) ?_
  refine LWp.ite rfl (fun h => ?_) (fun h => LWp.skip ?_)
  · rw [h, decide_eq_true_iff] at hbb
    have e1 : F.drop a = [] := List.drop_eq_nil_of_le (by omega)
    have e2 : S.drop b = [] := List.drop_eq_nil_of_le (by omega)
    refine LWp.sx (gs := []) (hs := []) rfl trivial ?_
    refine LWp.ret ⟨.inr rfl, _, .tup [I 0, I 4], mapH F S bm ks, rfl, .many (by decide) ⟨.tmp rfl rfl, .tmp rfl rfl, trivial⟩, ⟨?_, ks, hks, rfl⟩, List.Sublist.refl _⟩
    unfold farAt
    rw [e1, e2]; rfl
  · rw [h, decide_eq_false_iff_not] at hbb
    have hne : ¬ (a = F.length ∧ b = S.length) := fun e => hbb ⟨by rw [hFl]; omega, by rw [hSl]; omega⟩
    have hpl := left_plain ha hb hne
    refine LWp.sx (gs := []) (hs := []) rfl trivial ?_
    refine LWp.seq (LWp.ops ?_)
    refine WOps.xn (gs := []) (hs := [.ice]) 2 rfl rfl ⟨rfl, trivial⟩ ?_
    have hle := least_ev (X := { ks : List (Nat × Nat) // KS F S ks }) (fun x => mapH F S bm x.1) [0, 1, 2, 3] 116 [.pi [readerV F S bm], .pi [I a, I b]] (fun k => ofK F S a b k.toNat) (by
      rintro ⟨x, hx⟩ i hi
      obtain ⟨k, rfl, hk⟩ : ∃ k : Nat, i = k ∧ k ≤ 3 := by
        simp only [List.mem_cons, List.not_mem_nil, or_false] at hi
        rcases hi with rfl | rfl | rfl | rfl
        · exact ⟨0, rfl, by decide⟩
        · exact ⟨1, rfl, by decide⟩
        · exact ⟨2, rfl, by decide⟩
        · exact ⟨3, rfl, by decide⟩
      refine (left1_ev hF hS hk ha hb hc x hx).mono ?_
      rintro r Ho ⟨rfl, ks', hks', rfl⟩
      exact ⟨by rw [Int.toNat_natCast], ⟨ks', hks'⟩, rfl⟩) ⟨ks, hks⟩
    refine WOps.cons (Op1.callR (Hin := mapH F S bm ks) (H0 := []) hle rfl rfl (SubL.refl _) (by simp) ?_)
    rintro res Hout ⟨rfl, ⟨ks', hks'⟩, rfl⟩
    refine WOps.ent (Ent.ofH (H' := mapH F S bm ks') (by simp)) ?_
    rw [hpl]
    refine WOps.xd (gs := []) (hs := []) rfl trivial ?_
    refine LWp.sx (gs := []) (hs := []) rfl trivial ?_
    refine LWp.ret ⟨.inr rfl, _, .tup [I (farAt F S (a, b)), I (kindF (F.drop a) (S.drop b))], mapH F S bm ks', rfl, .many (by decide) ⟨.tmp rfl rfl, .tmp rfl rfl, trivial⟩, ⟨rfl, ks', hks', rfl⟩, List.Sublist.refl _⟩
theorem corr_all : ∀ (n a b : Nat), a ≤ F.length → b ≤ S.length → F.length + S.length ≤ n + (a + b) → CorrAt F S bm a b ∧ LeftAt F S bm a b := by
  intro n
  induction n with
  | zero =>
    intro a b ha hb hn
    have hl := left_ev hF hS (bm := bm) ha hb (fun a' b' h1 h2 h3 => by omega)
    exact ⟨corr_ev hF hS ha hb hl, hl⟩
  | succ n ih =>
    intro a b ha hb hn
    have hl := left_ev hF hS (bm := bm) ha hb (fun a' b' h1 h2 h3 => (ih a' b' h1 h2 (by omega)).1)
    exact ⟨corr_ev hF hS ha hb hl, hl⟩
theorem corr_at {a b : Nat} (ha : a ≤ F.length) (hb : b ≤ S.length) : CorrAt F S bm a b := (corr_all hF hS (F.length + S.length) a b ha hb (by omega)).1
theorem left_at {a b : Nat} (ha : a ≤ F.length) (hb : b ≤ S.length) : LeftAt F S bm a b := (corr_all hF hS (F.length + S.length) a b ha hb (by omega)).2
end
end Go.Px

namespace Go.Px
open Go.Proofs
abbrev actF (g : Nat) : AV := .fn (.func g) [] []
/-- What marks do. -/
abbrev actsL : List AV := [B true, B false, actF 117, B true, B true, actF 118, B true, B false, actF 119, B false, B true, actF 120]
theorem acts_ev : Ev Try.prog 82 [] (.agg actsL) := by
  refine Ev.intro fn82 ?_
  refine LWp.seq (LWp.ops (WOps.cons (Op1.alloc rfl (fun b => ?_))))
  refine WOps.nil ?_
  refine LWp.seq (LWp.ops ?_)
  refine WOps.xn (gs := []) (hs := []) 2 rfl rfl ⟨⟨by decide, by decide⟩, trivial⟩ ?_
  refine WOps.cons (Op1.storeO (i := 0) rfl rfl rfl rfl rfl rfl (by show 3 ≤ 12; decide) ?_)
  refine WOps.nil ?_
  refine LWp.seq (LWp.ops ?_)
  refine WOps.xn (gs := []) (hs := []) 2 rfl rfl ⟨⟨by decide, by decide⟩, trivial⟩ ?_
  refine WOps.cons (Op1.storeO (i := 0) rfl rfl rfl rfl rfl rfl (by show 6 ≤ 12; decide) ?_)
  refine WOps.nil ?_
  refine LWp.seq (LWp.ops ?_)
  refine WOps.xn (gs := []) (hs := []) 2 rfl rfl ⟨⟨by decide, by decide⟩, trivial⟩ ?_
  refine WOps.cons (Op1.storeO (i := 0) rfl rfl rfl rfl rfl rfl (by show 9 ≤ 12; decide) ?_)
  refine WOps.nil ?_
  refine LWp.seq (LWp.ops ?_)
  refine WOps.xn (gs := []) (hs := []) 2 rfl rfl ⟨⟨by decide, by decide⟩, trivial⟩ ?_
  refine WOps.cons (Op1.storeO (i := 0) rfl rfl rfl rfl rfl rfl (by show 12 ≤ 12; decide) ?_)
  refine WOps.nil ?_
  refine LWp.seq (LWp.ops ?_)
  refine WOps.ent (Ent.trans (Ent.ofH (H' := [(b, .cells 127 actsL)]) rfl) (Ent.el (l := [(0, .po b 0)]) ⟨rfl, trivial⟩)) ?_
  refine WOps.xn (gs := []) (hs := [.at 0]) 1 rfl rfl ⟨rfl, trivial⟩ ?_
  refine WOps.cons (Op1.storeO (i := 0) rfl rfl rfl rfl rfl rfl (by show 12 ≤ 12; decide) ?_)
  refine WOps.nil ?_
  refine LWp.ret (retT (.inr rfl) (.one ?_))
  exact .cellO (i := 0) (n := some 12) rfl rfl (by kernel_rfl) rfl
theorem kindF_spec {F S : List Wd} {a b : Nat} (ha : a ≤ F.length) (hb : b ≤ S.length) : (kindF (F.drop a) (S.drop b) = 4 ∧ a = F.length ∧ b = S.length) ∨
    (kindF (F.drop a) (S.drop b) ≤ 3 ∧ 0 ≤ (stepR F S (kindF (F.drop a) (S.drop b)) a b).2.2 ∧ ¬ (a = F.length ∧ b = S.length)) := by
  by_cases h : a = F.length ∧ b = S.length
  · left
    rw [h.1, h.2, List.drop_length, List.drop_length]
    exact ⟨rfl, rfl, rfl⟩
  · right
    cases hF : F[a]? with
    | none =>
      have hd : F.drop a = [] := List.drop_eq_nil_of_le (List.getElem?_eq_none_iff.1 hF)
      obtain ⟨s, hS⟩ := ex_get (l := S) (k := b) (by have := List.getElem?_eq_none_iff.1 hF; omega)
      have hk : kindF (F.drop a) (S.drop b) = 3 := by rw [hd, drop_cons hS]; rfl
      rw [hk]
      exact ⟨by decide, by simp [stepR, hS], h⟩
    | some w =>
      cases hS : S[b]? with
      | none =>
        have hd : S.drop b = [] := List.drop_eq_nil_of_le (List.getElem?_eq_none_iff.1 hS)
        have hk : kindF (F.drop a) (S.drop b) = 2 := by rw [hd, drop_cons hF]; rfl
        rw [hk]
        exact ⟨by decide, by simp [stepR, hF], h⟩
      | some s =>
        rw [drop_cons hF, drop_cons hS]
        simp only [kindF]
        by_cases hf : fitB s w = true
        · rw [if_pos hf]
          split
          · exact ⟨by decide, by simp [stepR, hF, hS, hf], h⟩
          · split
            · exact ⟨by decide, by simp [stepR, hF], h⟩
            · exact ⟨by decide, by simp [stepR, hS], h⟩
        · rw [if_neg hf]
          split
          · exact ⟨by decide, by simp [stepR, hF, hS, hf], h⟩
          · split
            · exact ⟨by decide, by simp [stepR, hF], h⟩
            · exact ⟨by decide, by simp [stepR, hS], h⟩
/-- The mark of a kind at a place. -/
def markAt (S : List Wd) (k b : Nat) : Mark := ⟨k, if k = 1 ∨ k = 3 then (S[b]?).getD [] else []⟩
theorem marksF_step {F S : List Wd} {a b f : Nat} (hk : kindF (F.drop a) (S.drop b) ≤ 3) (hst : 0 ≤ (stepR F S (kindF (F.drop a) (S.drop b)) a b).2.2) :
    marksF (f + 1) (F.drop a) (S.drop b) = markAt S (kindF (F.drop a) (S.drop b)) b :: marksF f (F.drop (stepR F S (kindF (F.drop a) (S.drop b)) a b).1) (S.drop (stepR F S (kindF (F.drop a) (S.drop b)) a b).2.1) := by
  have ht1 : (F.drop a).tail = F.drop (a + 1) := by rw [List.tail_drop]
  have ht2 : (S.drop b).tail = S.drop (b + 1) := by rw [List.tail_drop]
  have hh : (S.drop b).headD [] = (S[b]?).getD [] := by
    cases hS : S[b]? with
    | none => rw [List.drop_eq_nil_of_le (List.getElem?_eq_none_iff.1 hS)]; rfl
    | some s => rw [drop_cons hS]; rfl
  simp only [marksF]
  generalize kindF (F.drop a) (S.drop b) = k at hk hst
  have hneg : ∀ {x y : Nat}, ¬ (0 ≤ (x, y, (-1 : Int)).2.2) := fun h => absurd h (by simp only; decide)
  have hgo : ∀ (k' : Nat) (na nb : Nat) (c : Int), stepR F S k a b = (a, b, -1) ∨ stepR F S k a b = (na, nb, c) → stepR F S k a b = (na, nb, c) := by
    intro k' na nb c h
    rcases h with h | h
    · rw [h] at hst; exact absurd hst hneg
    · exact h
  match k, hk with
  | 0, _ =>
    have : stepR F S 0 a b = (a + 1, b + 1, 0) := hgo 0 _ _ _ (by
      cases hF : F[a]? <;> cases hS : S[b]? <;> simp only [stepR, hF, hS] <;> first | (split <;> simp) | simp)
    rw [this, if_pos rfl, ht1, ht2]; rfl
  | 1, _ =>
    have : stepR F S 1 a b = (a + 1, b + 1, 1) := hgo 1 _ _ _ (by
      cases hF : F[a]? <;> cases hS : S[b]? <;> simp only [stepR, hF, hS] <;> first | (split <;> simp) | simp)
    rw [this, if_neg (by decide), if_pos rfl, ht1, ht2, hh]; rfl
  | 2, _ =>
    have : stepR F S 2 a b = (a + 1, b, 1) := hgo 2 _ _ _ (by
      cases hF : F[a]? <;> cases hS : S[b]? <;> simp only [stepR, hF, hS] <;> first | (split <;> simp) | simp)
    rw [this, if_neg (by decide), if_neg (by decide), if_pos rfl, ht1]; rfl
  | 3, _ =>
    have : stepR F S 3 a b = (a, b + 1, 1) := hgo 3 _ _ _ (by
      cases hF : F[a]? <;> cases hS : S[b]? <;> simp only [stepR, hF, hS] <;> first | (split <;> simp) | simp)
    rw [this, if_neg (by decide), if_neg (by decide), if_neg (by decide), if_pos rfl, ht2, hh]; rfl
end Go.Px

namespace Go.Px
open Go.Proofs
theorem marksF_none (f : Nat) {F S : List Wd} (h : kindF F S = 4) : marksF f F S = [] := by
  cases f with
  | zero => rfl
  | succ f => simp [marksF, h]
theorem stepR_get {F S : List Wd} {k a b : Nat} (hk : k = 1 ∨ k = 3) (h : 0 ≤ (stepR F S k a b).2.2) : ∃ s, S[b]? = some s := by
  rcases hk with rfl | rfl
  · cases hF : F[a]? <;> cases hS : S[b]? <;> simp [stepR, hF, hS] at h ⊢
  · cases hF : F[a]? <;> cases hS : S[b]? <;> simp [stepR, hF, hS] at h ⊢
theorem fewest_ev (A C : List Wd) : Ev Try.prog 32 [strs A, strs C] (.tup [marksV (fewestR A C).1, I (fewestR A C).2.1, I (fewestR A C).2.2]) := by
  have hlA := lettered_ev A
  have hlC := lettered_ev C
  have bad : ∀ {env : Env} {H : Heap} {e : Int}, fewestE A C = e → e ≠ 0 → env 4 = .sl 2 [] → env 5 = I 0 → env 6 = I e → retP Try.prog [.tmp 4, .tmp 5, .tmp 6] (.tup [marksV (fewestR A C).1, I (fewestR A C).2.1, I (fewestR A C).2.2]) .ret env H [] := by
    intro env H e h1 h2 h4 h5 h6
    have : fewestR A C = ([], 0, e) := by unfold fewestR; rw [h1, if_neg h2]
    rw [this]
    exact retT (.inr rfl) (.many (by decide) ⟨.tmp h4 rfl, .tmp h5 rfl, .tmp h6 rfl, trivial⟩)
  refine Ev.intro fn32 ?_
  refine LWp.sx (gs := []) (hs := []) rfl trivial ?_
  refine LWp.seq (LWp.seq ?_)
  refine LWp.x (gs := []) (hs := [.ice]) rfl ⟨rfl, trivial⟩ ?_
  refine LWp.blockT (fun _ : Unit => fewestE A C = 0) (fun _ => el [(0, strs A), (1, strs C), (4, .nil)]) (fun _ => []) (fun _ => []) ?_ ?_
  · refine LWp.loopN (fun k : Nat => k ≤ 2 ∧ (0 < k → letterE A = 0) ∧ (1 < k → letterE C = 0)) (fun k => el [(0, strs A), (1, strs C), (4, .nil), (16, .sl 1 [[strs A], [strs C]]), (17, I 2), (18, I k)]) (fun _ => []) (fun _ => []) (fun k => 2 - k) 0 ⟨by omega, by omega, by omega⟩
      (Ent.el ⟨rfl, rfl, rfl, rfl, rfl, rfl, trivial⟩) ?_
    rintro k ⟨hk, h0, h1⟩
    refine LWp.sx (gs := []) (hs := []) rfl trivial ?_
    refine LWp.seq (LWp.ite rfl (fun he => ?_) (fun he => ?_))
    · simp only [decide_eq_true_eq] at he
      refine LWp.skip (LWp.seq (LWp.block ?_))
      have : k = 0 ∨ k = 1 := by omega
      rcases this with rfl | rfl
      · refine LWp.sx (gs := []) (hs := [.cells [strs A]]) rfl ⟨⟨by decide, rfl⟩, trivial⟩ ?_
        obtain ⟨e, hE⟩ : ∃ e, letterE A = e := ⟨_, rfl⟩
        rw [hE] at hlA
        refine LWp.sx (gs := []) (hs := [.ret (I e)]) rfl ⟨hlA, trivial⟩ ?_
        refine LWp.seq ?_
        refine LWp.x (gs := []) (hs := []) rfl trivial ?_
        refine LWp.ite rfl (fun hn => ?_) (fun hn => LWp.skip ?_)
        · have hn : e ≠ 0 := by simpa using hn
          have hf : fewestE A C = e := by unfold fewestE; rw [hE, if_neg hn]
          refine LWp.sx (gs := []) (hs := []) rfl trivial ?_
          refine LWp.ent (Ent.nilSl (t := 4) 2 rfl) ?_
          exact LWp.ret (bad hf hn rfl rfl rfl)
        · have hn : e = 0 := by simpa using hn
          refine LWp.x (gs := []) (hs := []) rfl ⟨by omega, trivial⟩ ?_
          exact ⟨1, ⟨by omega, fun _ => hE.trans hn, by omega⟩, by omega, Ent.el ⟨rfl, rfl, rfl, rfl, rfl, rfl, trivial⟩⟩
      · have hA0 := h0 (by omega)
        refine LWp.sx (gs := []) (hs := [.cells [strs C]]) rfl ⟨⟨by decide, rfl⟩, trivial⟩ ?_
        obtain ⟨e, hE⟩ : ∃ e, letterE C = e := ⟨_, rfl⟩
        rw [hE] at hlC
        refine LWp.sx (gs := []) (hs := [.ret (I e)]) rfl ⟨hlC, trivial⟩ ?_
        refine LWp.seq ?_
        refine LWp.x (gs := []) (hs := []) rfl trivial ?_
        refine LWp.ite rfl (fun hn => ?_) (fun hn => LWp.skip ?_)
        · have hn : e ≠ 0 := by simpa using hn
          have hf : fewestE A C = e := by unfold fewestE; rw [if_pos hA0, hE]
          refine LWp.sx (gs := []) (hs := []) rfl trivial ?_
          refine LWp.ent (Ent.nilSl (t := 4) 2 rfl) ?_
          exact LWp.ret (bad hf hn rfl rfl rfl)
        · have hn : e = 0 := by simpa using hn
          refine LWp.x (gs := []) (hs := []) rfl ⟨by omega, trivial⟩ ?_
          exact ⟨2, ⟨by omega, fun _ => hA0, fun _ => hE.trans hn⟩, by omega, Ent.el ⟨rfl, rfl, rfl, rfl, rfl, rfl, trivial⟩⟩
    · simp only [decide_eq_false_iff_not] at he
      have : k = 2 := by omega
      subst this
      exact LWp.exit ⟨(), fewestE_zero.2 ⟨h0 (by omega), h1 (by omega)⟩, Ent.el ⟨rfl, rfl, rfl, trivial⟩⟩
  intro _ hz
  obtain ⟨hA0, hC0⟩ := fewestE_zero.1 hz
  have hAl := (letter_zero.1 hA0).1
  have hCl := (letter_zero.1 hC0).1
  have hCll : (C.map fun s => [Str s]).length = C.length := List.length_map _
  have hR : fewestR A C = (marksF (A.length + C.length) A C, ((far A C : Nat) : Int), 0) := by unfold fewestR; rw [if_pos hz]
  rw [hR]
  refine LWp.seq (LWp.ops ?_)
  refine WOps.xn (gs := []) (hs := []) 2 rfl rfl trivial ?_
  refine WOps.cons (Op1.callR (Hin := []) (H0 := []) (listen_ev A C) rfl rfl (SubL.refl _) rfl ?_)
  rintro res Hout ⟨bm, rfl, rfl⟩
  refine WOps.xd (gs := []) (hs := []) rfl trivial ?_
  refine LWp.seq (LWp.ops (WOps.cons (Op1.alloc rfl (fun b10 => ?_))))
  refine WOps.nil ?_
  refine LWp.ent (Ent.nilLin (t := 4) 123 2 rfl) ?_
  have hpl : ∀ {env : Env}, env 4 = .lin 123 2 [] → True := fun _ => trivial
  refine LWp.block ?_
  refine LWp.loopN (X := Nat × Nat × List Mark × List (Nat × Nat)) (fun x => x.1 ≤ A.length ∧ x.2.1 ≤ C.length ∧ x.2.2.1.length ≤ x.1 + x.2.1 ∧ KS A C x.2.2.2 ∧ ∃ f, A.length + C.length ≤ f + (x.1 + x.2.1) ∧ marksF (A.length + C.length) A C = x.2.2.1 ++ marksF f (A.drop x.1) (C.drop x.2.1))
    (fun x => el [(1, strs C), (4, .lin 123 2 (x.2.2.1.map Mark.enc)), (9, readerV A C bm), (10, .po b10 0)]) (fun x => [(b10, .cells 118 [I x.1, I x.2.1]), (bm, .map (encM A C x.2.2.2))]) (fun _ => []) (fun x => (A.length - x.1) + (C.length - x.2.1)) (0, 0, [], []) ⟨Nat.zero_le _, Nat.zero_le _, by simp, (fun p hp => by cases hp), A.length + C.length, by simp, rfl⟩
    (Ent.trans (Ent.ofH rfl) (Ent.el ⟨rfl, rfl, rfl, rfl, trivial⟩)) ?_
  rintro ⟨a, b, ms, ks⟩ ⟨ha, hb, hml, hks, f, hf, hms⟩
  simp only at ha hb hml hks hf hms
  have hmel : (ms.map Mark.enc).length = ms.length := List.length_map _
  refine LWp.ent (Ent.el (l := [(1, strs C), (4, .lin 123 2 (ms.map Mark.enc)), (9, readerV A C bm), (10, .po b10 0)]) ⟨rfl, rfl, rfl, rfl, trivial⟩) ?_
  refine LWp.block ?_
  refine LWp.seq (LWp.ops ?_)
  refine WOps.xn (gs := []) (hs := [.at 0]) 2 rfl rfl ⟨rfl, trivial⟩ ?_
  refine WOps.ent (Ent.perm (List.Perm.swap _ _ _)) ?_
  refine WOps.cons (Op1.callR (Hin := mapH A C bm ks) (H0 := [(b10, .cells 118 [I a, I b])]) (left_at (by omega) (by omega) ha hb ks hks) rfl rfl (SubL.refl _) rfl ?_)
  rintro res Hout ⟨rfl, ks', hks', rfl⟩
  refine WOps.ent (Ent.perm (List.Perm.swap _ _ _)) ?_
  refine WOps.xd (gs := []) (hs := []) rfl trivial ?_
  refine LWp.ent (Ent.trans (Ent.ofH (H' := [(b10, .cells 118 [I a, I b]), (bm, .map (encM A C ks'))]) rfl) (Ent.el (l := [(1, strs C), (4, .lin 123 2 (ms.map Mark.enc)), (9, readerV A C bm), (10, .po b10 0), (12, I (kindF (A.drop a) (C.drop b) : Nat))]) ⟨rfl, rfl, rfl, rfl, rfl, trivial⟩)) ?_
  rcases kindF_spec ha hb with ⟨h4, e1, e2⟩ | ⟨h3, hst, hne⟩
  · rw [marksF_none f h4, List.append_nil] at hms
    rw [h4]
    refine LWp.seq (LWp.seq ?_)
    refine LWp.x (gs := []) (hs := []) rfl trivial ?_
    refine LWp.ite (b := true) rfl (fun _ => ?_) (fun h => by cases h)
    refine LWp.ent (Ent.freezeLin (t := 4) rfl) ?_
    refine LWp.seq (LWp.ops ?_)
    refine WOps.xn (gs := []) (hs := []) 3 rfl rfl trivial ?_
    refine WOps.ent (Ent.perm (List.Perm.swap _ _ _)) ?_
    refine WOps.cons (Op1.callR (Hin := mapH A C bm ks') (H0 := [(b10, .cells 118 [I a, I b])]) (corr_at (by omega) (by omega) (Nat.zero_le _) (Nat.zero_le _) ks' hks') rfl rfl (SubL.refl _) rfl ?_)
    rintro res Hout ⟨rfl, ks2, hks2, rfl⟩
    refine WOps.xd (gs := []) (hs := []) rfl trivial ?_
    rw [hms]
    exact LWp.ret (retT (.inr rfl) (.many (by decide) ⟨.tmp rfl rfl, .tmp rfl rfl, .tmp rfl rfl, trivial⟩))
  · obtain ⟨f', rfl⟩ : ∃ f', f = f' + 1 := ⟨f - 1, by omega⟩
    rw [marksF_step h3 hst] at hms
    have hstp := step_ev A C bm (kindF (A.drop a) (C.drop b)) a b h3 ha hb (by omega) (by omega)
    obtain ⟨l1, l2, l3, l4⟩ := stepR_le (F := A) (S := C) (k := kindF (A.drop a) (C.drop b)) ha hb
    have l5 := l4 hst
    have hget := fun h => stepR_get (F := A) (S := C) (k := kindF (A.drop a) (C.drop b)) (a := a) (b := b) h hst
    have hac := acts_ev
    have hk4 : kindF (A.drop a) (C.drop b) = 1 ∨ kindF (A.drop a) (C.drop b) = 3 ∨ kindF (A.drop a) (C.drop b) = 0 ∨ kindF (A.drop a) (C.drop b) = 2 := by omega
    generalize kindF (A.drop a) (C.drop b) = k at h3 hms hstp l1 l2 l3 l5 hget hk4
    generalize (stepR A C k a b).1 = a' at hms hstp l1 l5
    generalize (stepR A C k a b).2.1 = b' at hms hstp l2 l5
    generalize (stepR A C k a b).2.2 = c at hstp
    refine LWp.seq (LWp.seq ?_)
    refine LWp.x (gs := []) (hs := []) rfl trivial ?_
    refine LWp.ite (b := false) (by show B _ = B _; exact congrArg B (by rw [beq_eq_false_iff_ne]; omega)) (fun h => by cases h) (fun _ => LWp.skip ?_)
    refine LWp.seq (LWp.ops ?_)
    refine WOps.xn (gs := []) (hs := [.lin]) 4 rfl rfl ⟨rfl, ⟨rfl, rfl, rfl, by show 2 ≤ 2; decide⟩, trivial⟩ ?_
    refine WOps.shareB (t := 13) rfl (fun b13 => ?_)
    refine WOps.nil ?_
    refine LWp.ent (Ent.trans (Ent.ofH (H' := [(b13, .cells 123 [I k, Str []]), (b10, .cells 118 [I a, I b]), (bm, .map (encM A C ks'))]) rfl) (Ent.el (l := [(1, strs C), (4, .lin 123 2 (ms.map Mark.enc)), (9, readerV A C bm), (10, .po b10 0), (12, I k), (13, .po b13 0)]) ⟨rfl, rfl, rfl, rfl, rfl, rfl, trivial⟩)) ?_
    refine LWp.cutX (fun _ : Unit => True) (fun _ => el [(1, strs C), (4, .lin 123 2 (ms.map Mark.enc)), (9, readerV A C bm), (10, .po b10 0), (12, I k), (13, .po b13 0)]) (fun _ => [(b13, .cells 123 (markAt C k b).enc), (b10, .cells 118 [I a, I b]), (bm, .map (encM A C ks'))]) (fun _ => []) ?_ ?_
    · refine LWp.seq ?_
      have wr : ∀ (env : Env), (∃ s, C[b]? = some s) → (k = 1 ∨ k = 3) → ElOK env [(1, strs C), (4, .lin 123 2 (ms.map Mark.enc)), (9, readerV A C bm), (10, .po b10 0), (12, I k), (13, .po b13 0)] → LWp Try.prog none 66 (.ops [⟨some 49, none, .mov (tm 1)⟩, ⟨some 50, none, .faddr 118 (tm 10) 1 1⟩, ⟨some 51, none, .load 3 (tm 50) none⟩, ⟨some 52, none, .iaddr 29 (tm 49) (tm 51) 1⟩, ⟨some 53, none, .load 9 (tm 52) none⟩, ⟨some 54, none, .faddr 123 (tm 13) 1 1⟩, ⟨none, none, .store 9 (tm 54) (tm 53) 1⟩])
          (fun e env' H' D' => e = .normal ∧ Ent env' H' D' (el [(1, strs C), (4, .lin 123 2 (ms.map Mark.enc)), (9, readerV A C bm), (10, .po b10 0), (12, I k), (13, .po b13 0)]) [(b13, .cells 123 (markAt C k b).enc), (b10, .cells 118 [I a, I b]), (bm, .map (encM A C ks'))] []) env [(b13, .cells 123 [I k, Str []]), (b10, .cells 118 [I a, I b]), (bm, .map (encM A C ks'))] [] := by
        rintro env ⟨s, hs⟩ hk he
        refine LWp.ent (Ent.el he) ?_
        refine LWp.ops ?_
        refine WOps.xn (gs := []) (hs := [.at 1, .cells [Str s]]) 6 rfl rfl ⟨rfl, ⟨by omega, by simp [hs]⟩, trivial⟩ ?_
        refine WOps.cons (Op1.storeO (i := 0) rfl rfl rfl rfl rfl rfl (by show 2 ≤ 2; decide) ?_)
        refine WOps.nil ⟨rfl, Ent.trans (Ent.ofH ?_) (Ent.el ⟨rfl, rfl, rfl, rfl, rfl, rfl, trivial⟩)⟩
        have : (markAt C k b).enc = [I k, Str s] := by simp only [markAt, Mark.enc]; rw [if_pos hk, hs]; rfl
        rw [this]; rfl
      rcases hk4 with rfl | rfl | rfl | rfl
      · refine LWp.x (gs := []) (hs := [.ret (.agg actsL), .op (.agg [B true, B true, actF 118])]) rfl ⟨hac, fun _ _ _ => Op1.indexA 1 rfl rfl rfl (by decide) rfl rfl ⟨rfl, rfl, rfl⟩, trivial⟩ ?_
        refine LWp.ite (b := true) rfl (fun _ => ?_) (fun h => by cases h)
        refine LWp.mono (wr _ (hget (.inl rfl)) (.inl rfl) ⟨rfl, rfl, rfl, rfl, rfl, rfl, trivial⟩) ?_
        rintro e env' H' D' ⟨rfl, h⟩
        exact ⟨(), trivial, h⟩
      · refine LWp.x (gs := []) (hs := [.ret (.agg actsL), .op (.agg [B false, B true, actF 120])]) rfl ⟨hac, fun _ _ _ => Op1.indexA 3 rfl rfl rfl (by decide) rfl rfl ⟨rfl, rfl, rfl⟩, trivial⟩ ?_
        refine LWp.ite (b := true) rfl (fun _ => ?_) (fun h => by cases h)
        refine LWp.mono (wr _ (hget (.inr rfl)) (.inr rfl) ⟨rfl, rfl, rfl, rfl, rfl, rfl, trivial⟩) ?_
        rintro e env' H' D' ⟨rfl, h⟩
        exact ⟨(), trivial, h⟩
      · refine LWp.x (gs := []) (hs := [.ret (.agg actsL), .op (.agg [B true, B false, actF 117])]) rfl ⟨hac, fun _ _ _ => Op1.indexA 0 rfl rfl rfl (by decide) rfl rfl ⟨rfl, rfl, rfl⟩, trivial⟩ ?_
        refine LWp.ite (b := false) rfl (fun h => by cases h) (fun _ => LWp.skip ?_)
        exact ⟨(), trivial, Ent.el ⟨rfl, rfl, rfl, rfl, rfl, rfl, trivial⟩⟩
      · refine LWp.x (gs := []) (hs := [.ret (.agg actsL), .op (.agg [B true, B false, actF 119])]) rfl ⟨hac, fun _ _ _ => Op1.indexA 2 rfl rfl rfl (by decide) rfl rfl ⟨rfl, rfl, rfl⟩, trivial⟩ ?_
        refine LWp.ite (b := false) rfl (fun h => by cases h) (fun _ => LWp.skip ?_)
        exact ⟨(), trivial, Ent.el ⟨rfl, rfl, rfl, rfl, rfl, rfl, trivial⟩⟩
    intro _ _
    generalize hmk : markAt C k b = mk at hms
    refine LWp.sx (gs := []) (hs := [.at 0, .ice]) rfl ⟨rfl, rfl, ⟨by show (_ + 1) * 24 ≤ _; rw [hmel]; omega, by show _ + 1 ≤ _; rw [hmel]; omega⟩, trivial⟩ ?_
    refine LWp.ops ?_
    refine WOps.xn (gs := []) (hs := [.at 1]) 3 rfl rfl ⟨rfl, trivial⟩ ?_
    refine WOps.cons (Op1.call hstp rfl rfl (SubL.refl _) ?_)
    refine WOps.xn (gs := []) (hs := []) 3 rfl rfl trivial ?_
    refine WOps.cons (Op1.storeO (i := 1) rfl rfl rfl rfl rfl rfl (by show 2 ≤ 2; decide) ?_)
    refine WOps.nil ?_
    refine ⟨(a', b', ms ++ [mk], ks'), ⟨l1, l2, by simp; omega, hks', f', by simp only; omega, by rw [hms]; simp⟩, by simp only; omega, Ent.trans (Ent.subH (H' := [(b10, .cells 118 [I a', I b']), (bm, .map (encM A C ks'))]) ?_) (Ent.el ⟨rfl, ?_, rfl, rfl, trivial⟩)⟩
    · exact List.sublist_cons_self _ _
    · show AV.lin _ _ _ = _
      rw [List.map_append]; rfl
end Go.Px

