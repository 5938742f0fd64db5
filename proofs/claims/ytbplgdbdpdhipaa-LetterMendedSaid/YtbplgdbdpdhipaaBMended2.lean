/- Part 2 of the proof of the statement LetterMended (contracts of the functions that it alone wants). No conditions. -/
import Derived.Test.YtbplgdbdpdhipaaBMended1
namespace Go.Px
open Go.Proofs
theorem split_at {l : List Wd} {a : Nat} {w : Wd} (h : l[a]? = some w) : l = l.take a ++ w :: l.drop (a + 1) := by
  rw [← drop_cons h, List.take_append_drop]
theorem words_parts {l : List Wd} {a : Nat} (h : letterE l = 0) (v : Wd) (hv : wordB v = true) (ha : a < l.length) : letterE (l.take a ++ l.drop (a + 1)) = 0 ∧ letterE (l.take a ++ v :: l.drop (a + 1)) = 0 := by
  obtain ⟨h15, hw⟩ := letter_zero.1 h
  have ht : wordsB (l.take a) = true := List.all_eq_true.2 fun w hm => List.all_eq_true.1 hw w (List.mem_of_mem_take hm)
  have hd : wordsB (l.drop (a + 1)) = true := List.all_eq_true.2 fun w hm => List.all_eq_true.1 hw w (List.mem_of_mem_drop hm)
  refine ⟨letter_zero.2 ⟨by simp; omega, ?_⟩, letter_zero.2 ⟨by simp; omega, ?_⟩⟩
  · unfold wordsB at *
    rw [List.all_append, ht, hd]; rfl
  · unfold wordsB at *
    rw [List.all_append, List.all_cons, ht, hd, hv]; rfl
theorem mends_near {f : Form} (hv : FormV f) {l k : List Wd} (hl : letterE l = 0) (hk : letterE k = 0) (h1 : far k l ≤ 1) (h2 : far l k ≤ 1) : (decide (((mendsF f.parts l : Nat) : Int) - 1 ≤ (mendsF f.parts k : Nat)) && decide (((mendsF f.parts k : Nat) : Int) ≤ ((mendsF f.parts l : Nat) : Int) + 1)) = true := by
  have a1 := mends_one hv.parts (letter_ne hl) h1
  have a2 := mends_one hv.parts (letter_ne hk) h2
  simp only [Bool.and_eq_true, decide_eq_true_eq]
  omega
set_option maxRecDepth 20000 in
set_option maxHeartbeats 2000000 in
theorem letterMended_ev (s : Shelf) (hw : s.wf) (l : List Wd) (fo : Int) (x : List UInt8) (p : Int) (tu : Bool) (f0 : 0 ≤ fo) (f1 : fo ≤ 255) (p0 : 0 ≤ p) (p1 : p ≤ 255) : Ev Try.prog 13 [.agg s.enc, strs l, .agg [U fo, bytes x, U p, B tu]] (B true) := by
  have hfl : (s.forms.map Form.enc).length = s.forms.length := List.length_map _
  have hll : (l.map fun s => [Str s]).length = l.length := List.length_map _
  have e1 := nearest_ev s hw l
  have ev := valid_ev s hw
  have el1 := rLetter_ev l
  refine Ev.intro fn13 ?_
  by_cases h : OkSL s l
  case neg =>
    obtain ⟨r, hr, e⟩ := nearR_bad h
    rw [e] at e1
    have hp := ok_parts (c := (checkS s).2.2) (n := s.forms.length) (d := letterE l) (fun g => h ⟨g.1, fun e => g.2.1 (by rw [e]; rfl), g.2.2⟩)
    generalize (checkS s).2.2 = c at ev hp
    generalize letterE l = d at el1 hp
    have g1 : (r != 0) = true := by rw [bne_iff_ne]; exact hr
    refine LWp.sx (gs := []) (hs := [.ice, .ice]) rfl ⟨⟨rfl, rfl⟩, ⟨rfl, rfl⟩, trivial⟩ ?_
    refine LWp.seq (LWp.cutX (fun _ : Unit => True) (fun _ => el [(1, strs l), (3, .pi s.enc), (36, B true)]) (fun _ => []) (fun _ => []) ?_ ?_)
    · rcases hp with k0 | ⟨k0, k1⟩ | ⟨k0, k1, k2⟩
      · rw [k0] at ev
        refine LWp.x (gs := [(26, true), (32, true)]) (hs := [.ret (B false)]) rfl (by (repeat' (with_reducible apply And.intro)); (all_goals first | (with_reducible exact trivial) | (with_reducible rfl) | (with_reducible assumption) | ((with_reducible apply isB); first | exact rfl | exact beq_self_eq_true _) | omega | ((first | exact ev)))) ?_
        exact ⟨(), trivial, Ent.el ⟨rfl, rfl, rfl, trivial⟩⟩
      · rw [k0] at ev
        have k3 : (((s.forms.map Form.enc).length : Int) == 0) = true := by rw [beq_iff_eq]; omega
        refine LWp.x (gs := [(26, false), (32, true)]) (hs := [.ret (B true)]) rfl (by (repeat' (with_reducible apply And.intro)); (all_goals first | (with_reducible exact trivial) | (with_reducible rfl) | (with_reducible assumption) | ((with_reducible apply isB); first | exact rfl | exact beq_self_eq_true _) | omega | ((first | exact ev)))) ?_
        exact ⟨(), trivial, Ent.el ⟨rfl, rfl, rfl, trivial⟩⟩
      · rw [k0] at ev
        have k3 : (((s.forms.map Form.enc).length : Int) == 0) = false := by rw [beq_eq_false_iff_ne]; omega
        refine LWp.x (gs := [(26, false), (32, false)]) (hs := [.ret (B true), .ret (I d)]) rfl (by (repeat' (with_reducible apply And.intro)); (all_goals first | (with_reducible exact trivial) | (with_reducible rfl) | (with_reducible assumption) | ((with_reducible apply isB); first | exact rfl | exact beq_self_eq_true _) | omega | ((first | exact ev | exact el1)))) ?_
        exact ⟨(), trivial, Ent.el ⟨rfl, rfl, by show B _ = B _; exact congrArg B k2, trivial⟩⟩
    intro _ _
    refine LWp.ite (b := true) rfl (fun _ => ?_) (fun h => by cases h)
    refine LWp.sx (gs := []) (hs := [.ret (.tup [I 0, I 0, I r])]) rfl ⟨e1, trivial⟩ ?_
    refine LWp.sx (gs := [(46, true)]) (hs := [.ret (B true)]) rfl (by (repeat' (with_reducible apply And.intro)); (all_goals first | (with_reducible exact trivial) | (with_reducible rfl) | (with_reducible assumption) | ((with_reducible apply isB); first | exact rfl | exact beq_self_eq_true _) | omega | ((first | exact awake_ev)))) ?_
    refine LWp.ret (retT (.inr rfl) (.one (.tmp ?_ rfl)))
    rfl
  have hOK := h
  obtain ⟨h0, hne, hl0⟩ := h
  have V := shelf_iff.1 h0
  have hf4 := V.f4
  have hpos := List.length_pos_iff.2 hne
  have h15 := (letter_zero.1 hl0).1
  have ewh := which_ev s fo f0 f1 hne hf4
  obtain ⟨f, hf⟩ := whichN_get hne fo
  generalize whichN s fo = n at ewh hf
  have hnl := (List.getElem?_eq_some_iff.1 hf).1
  have hv := form_v V hf
  have hin := anyF_in x (roomsL f.parts) 0 (fun r hr => ⟨(rooms_ok hv.parts r hr).1, (rooms_ok hv.parts r hr).2.1⟩)
  have hws := anyF_words x (roomsL f.parts) 0
  have eany := any_ev f hv x
  generalize anyF x (roomsL f.parts) 0 = fs at hin hws eany
  obtain ⟨_, hbE⟩ := make_ok V hf hin hws
  have emd := mend_ev s hw n l
  rw [mendR_good h0 hl0 hf] at emd
  have eof := of_ev s hw l
  rw [ofR_good h0 hl0] at eof
  have efw := fewest_ev l (builtF f.parts fs)
  rw [fewestR_good hl0 hbE] at efw
  have hbu := mends_built hv.parts (l := l) hin (letter_ne hbE)
  have hfb := far_le l (builtF f.parts fs)
  have hb15 := (letter_zero.1 hbE).1
  have hhas := has_ev (ofL s.forms l) n
  rw [has_mends h0 hf] at hhas
  have hz : (((mendsF f.parts l : Nat) : Int) == 0) = ((mendsF f.parts l : Nat) == 0) := by rw [Bool.eq_iff_iff, beq_iff_eq, beq_iff_eq]; omega
  have hms := mends_small hv h15
  have ebu : Ev Try.prog 52 [.agg f.enc, fillsV fs] (strs (builtF f.parts fs)) := by
    have h1 := inR_len hin
    have h2 := rooms_len f.parts
    have := hv.p5
    rw [List.length_map] at h1
    exact rbuilt_ev f fs h1 (by omega) (by omega)
  rw [h0] at ev
  rw [hl0] at el1
  have emo : ∀ o : List Wd, letterE o = 0 → Ev Try.prog 37 [.agg s.enc, I n, strs o] (.tup [I (mendsF f.parts o : Nat), I 0]) := by
    intro o ho
    have := mend_ev s hw n o
    rw [mendR_good h0 ho hf] at this; exact this
  have hmo : ∀ o : List Wd, letterE o = 0 → mendsF f.parts o ≤ 1000 := fun o ho => mends_small hv (letter_zero.1 ho).1
  have hnear : ∀ o : List Wd, letterE o = 0 → far o l ≤ 1 → far l o ≤ 1 → Ev Try.prog 53 [I (mendsF f.parts o : Nat), I (((mendsF f.parts l : Nat) : Int) - 1), I (((mendsF f.parts l : Nat) : Int) + 1)] (B true) := by
    intro o ho g1 g2
    have := in_ev ((mendsF f.parts o : Nat) : Int) (((mendsF f.parts l : Nat) : Int) - 1) (((mendsF f.parts l : Nat) : Int) + 1)
    rw [mends_near hv hl0 ho g1 g2] at this; exact this
  generalize mendsF f.parts l = M at emd hbu hhas hz hms hnear
  generalize hzz : ((M : Nat) == 0) = z at hhas hz
  generalize ofL s.forms l = O at eof hhas
  generalize marksF (l.length + (builtF f.parts fs).length) l (builtF f.parts fs) = Mk at efw
  generalize far l (builtF f.parts fs) = F at efw hbu hfb
  generalize builtF f.parts fs = bl at efw ebu hfb hb15
  refine LWp.sx (gs := []) (hs := [.ice, .ice]) rfl ⟨⟨rfl, rfl⟩, ⟨rfl, rfl⟩, trivial⟩ ?_
  have k3 : (((s.forms.map Form.enc).length : Int) == 0) = false := by rw [beq_eq_false_iff_ne]; omega
  refine LWp.seq (LWp.seq ?_)
  refine LWp.x (gs := [(26, false), (32, false)]) (hs := [.ret (B true), .ret (I 0)]) rfl (by (repeat' (with_reducible apply And.intro)); (all_goals first | (with_reducible exact trivial) | (with_reducible rfl) | (with_reducible assumption) | ((with_reducible apply isB); first | exact rfl | exact beq_self_eq_true _) | omega | ((first | exact ev | exact el1)))) ?_
  refine LWp.ite (b := false) rfl (fun h => by cases h) (fun _ => LWp.skip ?_)
  refine LWp.sx (gs := []) (hs := [.ret (I n)]) rfl ⟨ewh, trivial⟩ ?_
  refine LWp.sx (gs := []) (hs := [.ret (.tup [I M, I 0])]) rfl ⟨emd, trivial⟩ ?_
  refine LWp.sx (gs := []) (hs := [.ret (.tup [ints O, I 0])]) rfl ⟨eof, trivial⟩ ?_
  have hfg : (s.forms.map Form.enc)[(n : Int).toNat]? = some f.enc := by rw [Int.toNat_natCast, List.getElem?_map, hf]; rfl
  refine LWp.sd (gs := []) (hs := [.cells f.enc, .cells f.enc, .ret (fillsV fs), .ret (strs bl)]) hmix rfl (by kernel_rfl) ⟨⟨by omega, hfg⟩, ⟨by omega, hfg⟩, eany, ebu, trivial⟩ ?_
  refine LWp.sx (gs := []) (hs := [.ret (.tup [marksV Mk, I F, I 0])]) rfl ⟨efw, trivial⟩ ?_
  refine LWp.seq (LWp.cutX (fun _ : Unit => True) (fun _ => el [(1, strs l), (3, .pi s.enc), (5, .pi [U fo, bytes x, U p, B tu]), (10, I n), (11, I M), (113, B false)]) (fun _ => []) (fun _ => []) ?_ ?_)
  · have c5 : (((M : Int) == 0) != z) = false := by rw [hz]; simp
    have c6 : decide ((F : Int) < (M : Int)) = false := decide_eq_false (by omega)
    have c7 : decide ((M : Int) < 0) = false := decide_eq_false (by omega)
    refine LWp.x (gs := [(89, false), (93, false), (97, false), (105, false), (110, false)]) (hs := [.ret (B z)]) rfl (by (repeat' (with_reducible apply And.intro)); (all_goals first | (with_reducible exact trivial) | (with_reducible rfl) | (with_reducible assumption) | ((with_reducible apply isB); first | exact rfl | exact beq_self_eq_true _) | omega | ((first | exact hhas | exact ub)))) ?_
    exact ⟨(), trivial, Ent.el ⟨rfl, rfl, rfl, rfl, rfl, by show B _ = B _; exact congrArg B c7, trivial⟩⟩
  intro _ _
  refine LWp.ite (b := false) rfl (fun h => by cases h) (fun _ => LWp.skip ?_)
  refine LWp.seq (LWp.seq ?_)
  refine LWp.x (gs := []) (hs := []) rfl trivial ?_
  by_cases hle : l = []
  · refine LWp.ite (b := true) (by show B _ = B _; exact congrArg B (by rw [hll, hle]; rfl)) (fun _ => ?_) (fun h => by cases h)
    refine LWp.sx (gs := []) (hs := [.ret (B true)]) rfl ⟨awake_ev, trivial⟩ ?_
    refine LWp.ret (retT (.inr rfl) (.one (.tmp ?_ rfl)))
    rfl
  have hlp := List.length_pos_iff.2 hle
  refine LWp.ite (b := false) (by show B _ = B _; exact congrArg B (by rw [hll, beq_eq_false_iff_ne]; omega)) (fun h => by cases h) (fun _ => LWp.skip ?_)
  obtain ⟨a, hae⟩ : ∃ a : Nat, p.toNat % l.length = a := ⟨_, rfl⟩
  have hal : a < l.length := by rw [← hae]; exact Nat.mod_lt _ hlp
  have hap : p % (l.length : Int) = (a : Int) := by rw [← hae, Int.natCast_emod, Int.toNat_of_nonneg p0]
  obtain ⟨w, hwa⟩ := ex_get hal
  obtain ⟨o1, o2⟩ := words_parts hl0 [122, 122] (by decide) hal
  have hsp := split_at hwa
  have d1 : far (l.take a ++ l.drop (a + 1)) l ≤ 1 := by
    conv => lhs; rhs; rw [hsp]
    exact far_put_in
  have d2 : far l (l.take a ++ l.drop (a + 1)) ≤ 1 := by
    conv => lhs; lhs; rw [hsp]
    exact far_dropped
  have d3 : far (l.take a ++ [122, 122] :: l.drop (a + 1)) l ≤ 1 := by
    conv => lhs; rhs; rw [hsp]
    exact far_turned
  have d4 : far l (l.take a ++ [122, 122] :: l.drop (a + 1)) ≤ 1 := by
    conv => lhs; lhs; rw [hsp]
    exact far_turned
  refine LWp.sx (gs := []) (hs := []) rfl (by exact ⟨i64_wrap (by omega) (by omega), ⟨by omega, by rw [hll]; omega⟩, trivial⟩) ?_
  refine LWp.ent (Ent.el (l := [(1, strs l), (3, .pi s.enc), (5, .pi [U fo, bytes x, U p, B tu]), (10, I n), (11, I M), (19, I a)]) ⟨rfl, rfl, rfl, rfl, rfl, by show I _ = I _; rw [hll, hap], trivial⟩) ?_
  have hst : segE (l.map fun s => [Str s]) none (some (a : Int).toNat) = (l.take a).map fun s => [Str s] := by
    rw [Int.toNat_natCast, List.map_take]; rfl
  have hsd : segE (l.map fun s => [Str s]) (some ((a : Int) + 1).toNat) none = (l.drop (a + 1)).map fun s => [Str s] := by
    rw [show ((a : Int) + 1).toNat = a + 1 by omega, List.map_drop]; rfl
  have hlt : (segE (l.map fun s => [Str s]) none (some (a : Int).toNat)).length = a := by rw [hst]; simp; omega
  have hld : (segE (l.map fun s => [Str s]) (some ((a : Int) + 1).toNat) none).length = l.length - (a + 1) := by rw [hsd]; simp
  generalize hA1 : segE (l.map fun s => [Str s]) none (some (a : Int).toNat) = A1 at hst hlt
  generalize hA2 : segE (l.map fun s => [Str s]) (some ((a : Int) + 1).toNat) none = A2 at hsd hld
  have b1 : (0 + A1.length) * 16 ≤ 140737488355328 ∧ 0 + A1.length ≤ 9223372036854775807 := by omega
  have b2 : ((([] : List (List AV)) ++ A1).length + A2.length) * 16 ≤ 140737488355328 ∧ (([] : List (List AV)) ++ A1).length + A2.length ≤ 9223372036854775807 := by rw [List.nil_append]; omega
  have b3 : ((([] : List (List AV)) ++ A1).length + 1) * 16 ≤ 140737488355328 ∧ (([] : List (List AV)) ++ A1).length + 1 ≤ 9223372036854775807 := by rw [List.nil_append]; omega
  have b4 : (((([] : List (List AV)) ++ A1) ++ [[Str [122, 122]]]).length + A2.length) * 16 ≤ 140737488355328 ∧ ((([] : List (List AV)) ++ A1) ++ [[Str [122, 122]]]).length + A2.length ≤ 9223372036854775807 := by rw [List.nil_append, List.length_append]; simp only [List.length_singleton]; omega
  have q1 : none.getD 0 ≤ (some (a : Int).toNat).getD (l.map fun s => [Str s]).length := Nat.zero_le _
  have q2 : (some (a : Int).toNat).getD (l.map fun s => [Str s]).length ≤ (l.map fun s => [Str s]).length := by show (a : Int).toNat ≤ _; rw [hll]; omega
  have q3 : (some ((a : Int) + 1).toNat).getD 0 ≤ none.getD (l.map fun s => [Str s]).length := by show ((a : Int) + 1).toNat ≤ (l.map fun s => [Str s]).length; rw [hll]; omega
  refine LWp.sd (gs := []) (hs := [.lin]) hmix rfl (by kernel_rfl) (by exact ⟨rfl, ⟨⟨trivial, by omega⟩, q1, q2⟩, by rw [hA1]; exact b1, ⟨by omega, by omega⟩, ⟨⟨by omega, trivial⟩, q3, Nat.le_refl _⟩, by rw [hA1, hA2]; exact b2, trivial⟩) ?_
  refine LWp.ent (Ent.trans (Ent.freezeLin (t := 20) rfl) (Ent.el (l := [(1, strs l), (3, .pi s.enc), (5, .pi [U fo, bytes x, U p, B tu]), (10, I n), (11, I M), (19, I a), (20, strs (l.take a ++ l.drop (a + 1)))]) ⟨rfl, rfl, rfl, rfl, rfl, rfl, by rw [hA1, hA2]; show AV.sl 1 ((([] : List (List AV)) ++ A1) ++ A2) = _; rw [hst, hsd, List.nil_append, ← List.map_append], trivial⟩)) ?_
  refine LWp.cutX (Y := List Wd) (fun o => letterE o = 0 ∧ far o l ≤ 1 ∧ far l o ≤ 1) (fun o => el [(3, .pi s.enc), (10, I n), (11, I M), (20, strs o)]) (fun _ => []) (fun _ => []) ?_ ?_
  · refine LWp.seq ?_
    refine LWp.x (gs := []) (hs := []) rfl trivial ?_
    cases tu with
    | false =>
      refine LWp.ite (b := false) rfl (fun h => by cases h) (fun _ => LWp.skip ?_)
      exact ⟨_, ⟨o1, d1, d2⟩, Ent.el ⟨rfl, rfl, rfl, rfl, trivial⟩⟩
    | true =>
      refine LWp.ite (b := true) rfl (fun _ => ?_) (fun h => by cases h)
      refine LWp.dd (gs := []) (hs := [.lin, .ice]) hmix rfl (by kernel_rfl) (by exact ⟨rfl, ⟨⟨trivial, by omega⟩, q1, q2⟩, by rw [hA1]; exact b1, rfl, by rw [hA1]; exact b3, ⟨by omega, by omega⟩, ⟨⟨by omega, trivial⟩, q3, Nat.le_refl _⟩, by rw [hA1, hA2]; exact b4, trivial⟩) ?_
      refine ⟨_, ⟨o2, d3, d4⟩, Ent.trans (Ent.freezeLin (t := 20) rfl) (Ent.el ⟨rfl, rfl, rfl, ?_, trivial⟩)⟩
      rw [hA1, hA2]
      show AV.sl 1 (((([] : List (List AV)) ++ A1) ++ [[Str [122, 122]]]) ++ A2) = _
      rw [hst, hsd, List.nil_append]
      show _ = AV.sl 1 (List.map (fun s => [Str s]) (l.take a ++ [122, 122] :: l.drop (a + 1)))
      rw [List.map_append, List.map_cons, List.append_assoc]; rfl
  rintro o ⟨q4, q5, q6⟩
  have em := emo o q4
  have en := hnear o q4 q5 q6
  have hmo2 := hmo o q4
  generalize mendsF f.parts o = Mo at em en hmo2
  refine LWp.sx (gs := []) (hs := [.ret (.tup [I Mo, I 0])]) rfl ⟨em, trivial⟩ ?_
  refine LWp.sx (gs := [(157, true), (165, true)]) (hs := [.ret (B true), .ret (B true)]) rfl (by (repeat' (with_reducible apply And.intro)); (all_goals first | (with_reducible exact trivial) | (with_reducible rfl) | (with_reducible assumption) | ((with_reducible apply isB); first | exact rfl | exact beq_self_eq_true _) | omega | ((first | exact en | exact awake_ev)))) ?_
  refine LWp.ret (retT (.inr rfl) (.one (.tmp ?_ rfl)))
  rfl
end Go.Px

namespace Go.Px
open Go.Proofs Go.Proofs.Ytbplgdbdpdhipaa
open Go.ChangeShapes Go.WideShapes Go.ChangeAt Go.RowKit
def bytesSh : Sh := .sl (.int .u8)
theorem fits_byte (l : List AV) (h : Fits (.int .u8) l) : ∃ a : UInt8, True ∧ l = [U a.toNat] := by
  simp only [Fits] at h
  obtain ⟨n, rfl, hn⟩ := h
  have := bounds_u8 hn
  refine ⟨n.toNat.toUInt8, trivial, ?_⟩
  have e : n.toNat.toUInt8.toNat = n.toNat % 256 := rfl
  rw [e, show ((n.toNat % 256 : Nat) : Int) = n by omega]
theorem fits_bytes1 (l : List AV) (h : Fits bytesSh l) : ∃ x : List UInt8, l = [bytes x] := by
  simp only [bytesSh, Fits.eq_4] at h
  obtain ⟨es, rfl, _, hes⟩ := h
  obtain ⟨x, _, rfl⟩ := fits_list fits_byte hes
  exact ⟨x, rfl⟩
def mendedSh : Sh := .st [.int .u8, bytesSh, .int .u8, .bool]
theorem fits_mended (a : AV) (h : FitA mendedSh a) : ∃ (f : Int) (x : List UInt8) (p : Int) (t : Bool), 0 ≤ f ∧ f ≤ 255 ∧ 0 ≤ p ∧ p ≤ 255 ∧ a = .agg [U f, bytes x, U p, B t] := by
  simp only [mendedSh, FitA, FitsL] at h
  obtain ⟨l, rfl, l1, _, rfl, h1, l2, _, rfl, h2, l3, _, rfl, h3, l4, _, rfl, h4, rfl⟩ := h
  simp only [Fits] at h1 h3 h4
  obtain ⟨f, rfl, hf⟩ := h1
  obtain ⟨x, rfl⟩ := fits_bytes1 _ h2
  obtain ⟨p, rfl, hp⟩ := h3
  obtain ⟨t, rfl⟩ := h4
  have := bounds_u8 hf
  have := bounds_u8 hp
  exact ⟨f, x, p, t, by omega, by omega, by omega, by omega, rfl⟩
end Go.Px

