/- Part 15 of the proofs of the outright statements of this seat (functions lowered, plain laws, contracts). No conditions. -/
import Derived.Test.YtgcdemklhalbhaaC14
namespace Go.Px
open Go.Proofs

def sndH (n : Nat) (l : List UInt8) (i : Nat) : List Int := (l.take i).map fun c => ((c.toNat % n : Nat) : Int)
def plcH (n : Nat) (l : List UInt8) (i : Nat) : List Nat := (l.take i).map fun c => c.toNat % n
theorem sndH_succ (n : Nat) {l : List UInt8} {i : Nat} {c : UInt8} (h : l[i]? = some c) : sndH n l (i + 1) = sndH n l i ++ [((c.toNat % n : Nat) : Int)] := by
  unfold sndH
  rw [List.take_add_one, h]; simp
theorem plcH_succ (n : Nat) {l : List UInt8} {i : Nat} {c : UInt8} (h : l[i]? = some c) : plcH n l (i + 1) = plcH n l i ++ [c.toNat % n] := by
  unfold plcH
  rw [List.take_add_one, h]; simp
theorem rune_wrap {c : Int} (h0 : 97 ≤ c) (h1 : c ≤ 122) : IntKind.i32.wrap c = c := by
  have h : ∀ k : Fin 26, IntKind.i32.wrap (97 + (k.1 : Int)) = 97 + (k.1 : Int) := by decide +kernel
  have := h ⟨(c - 97).toNat, by omega⟩
  have e1 : (97 : Int) + ((c - 97).toNat : Int) = c := by omega
  rw [e1] at this; exact this
theorem ints_snoc (l : List Nat) (v : Nat) : AV.sl 1 ((natI l).map (fun x => [I x]) ++ [[I v]]) = ints (natI (l ++ [v])) := by rw [natI_append, ints, List.map_append]; rfl
theorem bytesK_app (ls : List Letter) (ks : List Nat) (k : Nat) : bytesK ls (ks ++ [k]) = bytesK ls ks ++ [byteK ls k] := by simp [bytesK]
theorem str_snoc (ls : List Letter) (ks : List Nat) (k : Nat) : AV.v (.string (⟨(bytesK ls ks).toArray⟩ ++ ⟨[byteK ls k].toArray⟩)) = Str (bytesK ls (ks ++ [k])) := by
  rw [bytesK_app, str_append]

set_option maxRecDepth 10000 in
theorem earSpelt_ev (b : Book) (hw : b.wf) (_hs : b.ss.length ≤ 9223372036854775807) (hal : b.al.length ≤ 9223372036854775807) (w : Int) (h0 : 0 ≤ w) (h0' : w ≤ 255) (hd xs : List UInt8) :
    Ev Try.prog 12 [.agg (b.enc ++ [U w, bytes hd, bytes xs])] (B true) := by
  refine Ev.intro fn12 ?_
  have ev := valid_ev b hw
  have haln : (b.al.map Alph.enc).length = b.al.length := List.length_map _
  refine LWp.sx (gs := []) (hs := [.ice]) rfl ⟨⟨rfl, rfl⟩, trivial⟩ ?_
  refine LWp.sd (gs := []) (hs := [.lin]) hmix rfl (by kernel_rfl) ⟨rfl, ⟨rfl, rfl, rfl, Nat.le_refl 3⟩, trivial⟩ ?_
  refine LWp.ent (Ent.trans (Ent.freezeLbox (t := 3) rfl) (Ent.el (l := [(3, .pi b.enc), (4, U w), (5, bytes hd), (6, bytes xs)]) ⟨rfl, rfl, rfl, rfl, trivial⟩)) ?_
  refine LWp.seq (LWp.seq ?_)
  by_cases V : Valid b
  · rw [validB_iff.2 V] at ev
    have n1 := V.n1
    have n4 := V.n4
    have al1 := V.al1
    have al3 := V.al3
    refine LWp.x (gs := []) (hs := [.ret (B true)]) rfl ⟨ev, trivial⟩ ?_
    refine LWp.ite (b := false) rfl (fun h => by cases h) (fun _ => LWp.skip ?_)
    obtain ⟨a0, ha0, ea0⟩ := w_mod h0 (n := b.al.length) (by omega)
    obtain ⟨A, hA⟩ := ex_get ha0
    have okA := V.alph A (List.mem_of_getElem? hA)
    have D := alph_lsD okA
    have l1 := okA.l1
    have l6 := okA.l6
    have hlln : (A.ls.map Letter.enc).length = A.ls.length := List.length_map _
    refine LWp.sx (gs := []) (hs := []) rfl ⟨i64_wrap (n := w) (by omega) (by omega), ⟨by omega, by rw [haln]; omega⟩, trivial⟩ ?_
    refine LWp.ent (Ent.el (l := [(3, .pi b.enc), (5, bytes hd), (6, bytes xs), (9, I a0)]) ⟨rfl, rfl, rfl, by show I _ = I _; rw [← ea0, haln], trivial⟩) ?_
    refine LWp.sx (gs := []) (hs := [.cells A.enc]) rfl ⟨⟨by omega, by simp [hA]⟩, trivial⟩ ?_
    refine LWp.sx (gs := []) (hs := []) rfl trivial ?_
    refine LWp.seq (LWp.seq ?_)
    refine LWp.x (gs := []) (hs := []) rfl trivial ?_
    -- what is heard
    refine LWp.blockT (fun _ : Unit => True) (fun _ => el [(3, .pi b.enc), (6, bytes xs), (9, I a0), (10, letters A.ls), (11, ints (sndH b.n.toNat hd (min hd.length 5)))]) (fun _ => []) (fun _ => []) ?_ ?_
    · refine LWp.loopN (fun i : Nat => i ≤ min hd.length 5) (fun i => el [(3, .pi b.enc), (5, bytes hd), (6, bytes xs), (9, I a0), (10, letters A.ls), (11, linI (sndH b.n.toNat hd i)), (12, I i)]) (fun _ => []) (fun _ => []) (fun i => min hd.length 5 - i) 0 (by omega)
        (Ent.trans (Ent.nilLin (t := 11) 3 1 rfl) (Ent.el ⟨rfl, rfl, rfl, rfl, rfl, rfl, rfl, trivial⟩)) ?_
      intro i hi
      refine LWp.seq (LWp.seq ?_)
      refine LWp.cutT (fun _ : Unit => True) (fun _ => el [(3, .pi b.enc), (5, bytes hd), (6, bytes xs), (9, I a0), (10, letters A.ls), (11, linI (sndH b.n.toNat hd i)), (12, I i), (69, B (decide (i < min hd.length 5)))]) (fun _ => []) (fun _ => []) ?_ (fun _ _ => ?_)
      · have hdn : (hd.map fun c => [U c.toNat]).length = hd.length := List.length_map _
        by_cases hc : i < hd.length
        · have h1 : decide ((i : Int) < ((hd.map fun c => [U c.toNat]).length : Int)) = true := decide_eq_true (by rw [hdn]; omega)
          refine LWp.x (gs := [(66, true)]) (hs := []) rfl (by (repeat' (with_reducible apply And.intro)); (all_goals try first | (with_reducible exact trivial) | (with_reducible rfl) | (with_reducible assumption) | ((with_reducible apply isB); first | exact rfl | exact beq_self_eq_true _))) ?_
          refine ⟨(), trivial, Ent.el ⟨rfl, rfl, rfl, rfl, rfl, rfl, rfl, ?_, trivial⟩⟩
          have e : decide (i < min hd.length 5) = decide ((i : Int) < 5) := by rw [Bool.eq_iff_iff]; simp; omega
          rw [e]; rfl
        · have h1 : decide ((i : Int) < ((hd.map fun c => [U c.toNat]).length : Int)) = false := decide_eq_false (by rw [hdn]; omega)
          refine LWp.x (gs := [(66, false)]) (hs := []) rfl (by (repeat' (with_reducible apply And.intro)); (all_goals try first | (with_reducible exact trivial) | (with_reducible rfl) | (with_reducible assumption) | ((with_reducible apply isB); first | exact rfl | exact beq_self_eq_true _))) ?_
          refine ⟨(), trivial, Ent.el ⟨rfl, rfl, rfl, rfl, rfl, rfl, rfl, ?_, trivial⟩⟩
          rw [decide_eq_false (show ¬ i < min hd.length 5 by omega)]; rfl
      refine LWp.ite rfl (fun hc => ?_) (fun hc => ?_)
      · simp only [decide_eq_true_eq] at hc
        obtain ⟨c, hcc⟩ := ex_get (show i < hd.length by omega)
        have hcl := c.toNat_lt
        have hsl : (sndH b.n.toNat hd i).length ≤ 5 := by unfold sndH; rw [List.length_map, List.length_take]; omega
        have hmod : (c.toNat : Int) % b.n = ((c.toNat % b.n.toNat : Nat) : Int) := by rw [Int.natCast_emod, Int.toNat_of_nonneg (by omega)]
        refine LWp.skip ?_
        refine LWp.blockX (fun _ : Unit => True) (fun _ => el [(3, .pi b.enc), (5, bytes hd), (6, bytes xs), (9, I a0), (10, letters A.ls), (11, linI (sndH b.n.toNat hd (i + 1))), (12, I i)]) (fun _ => []) (fun _ => []) ?_ ?_
        · rw [sndH_succ _ hcc, ← hmod]
          generalize sndH b.n.toNat hd i = sm at hsl
          refine LWp.dd (gs := []) (hs := [.cells [U c.toNat], .ice]) hmix rfl (by kernel_rfl) ⟨⟨by omega, by simp [hcc]⟩, i64_wrap (by omega) (by omega), ⟨by omega, by omega⟩, rfl, ⟨by simp [chunk]; omega, by simp [chunk]; omega⟩, trivial⟩ ?_
          refine ⟨(), trivial, Ent.el ⟨rfl, rfl, rfl, rfl, rfl, ?_, rfl, trivial⟩⟩
          exact lin_snoc _ _
        · intro _ _
          refine LWp.x (gs := []) (hs := []) rfl ⟨by omega, trivial⟩ ?_
          exact ⟨i + 1, by omega, by omega, Ent.el ⟨rfl, rfl, rfl, rfl, rfl, rfl, rfl, trivial⟩⟩
      · simp only [decide_eq_false_iff_not] at hc
        have e : i = min hd.length 5 := by omega
        subst e
        exact LWp.exit ⟨(), trivial, Ent.trans (Ent.freezeLin (t := 11) rfl) (Ent.el ⟨rfl, rfl, rfl, rfl, rfl, trivial⟩)⟩
    intro _ _
    have sd5 : (sndH b.n.toNat hd (min hd.length 5)).length ≤ 5 := by unfold sndH; rw [List.length_map, List.length_take]; omega
    have sdv : ∀ v ∈ sndH b.n.toNat hd (min hd.length 5), 0 ≤ v ∧ v < b.n := by
      intro v hv
      unfold sndH at hv
      obtain ⟨c, _, rfl⟩ := List.mem_map.1 hv
      have := Nat.mod_lt c.toNat (show 0 < b.n.toNat by omega)
      omega
    generalize sndH b.n.toNat hd (min hd.length 5) = sd at sd5 sdv
    -- another text
    refine LWp.sx (gs := []) (hs := []) rfl trivial ?_
    refine LWp.seq (LWp.seq ?_)
    refine LWp.x (gs := []) (hs := []) rfl trivial ?_
    refine LWp.blockT (fun _ : Unit => True) (fun _ => el [(3, .pi b.enc), (9, I a0), (10, letters A.ls), (11, ints sd), (13, Str (bytesK A.ls (plcH A.ls.length xs (min xs.length 5)))), (14, ints (natI (plcH A.ls.length xs (min xs.length 5))))]) (fun _ => []) (fun _ => []) ?_ ?_
    · refine LWp.loopN (fun i : Nat => i ≤ min xs.length 5) (fun i => el [(3, .pi b.enc), (6, bytes xs), (9, I a0), (10, letters A.ls), (11, ints sd), (13, Str (bytesK A.ls (plcH A.ls.length xs i))), (14, ints (natI (plcH A.ls.length xs i))), (15, I i)]) (fun _ => []) (fun _ => []) (fun i => min xs.length 5 - i) 0 (by omega)
        (Ent.trans (Ent.nilSl (t := 14) 1 rfl) (Ent.el ⟨rfl, rfl, rfl, rfl, rfl, rfl, rfl, rfl, trivial⟩)) ?_
      intro i hi
      refine LWp.seq (LWp.seq ?_)
      refine LWp.cutT (fun _ : Unit => True) (fun _ => el [(3, .pi b.enc), (6, bytes xs), (9, I a0), (10, letters A.ls), (11, ints sd), (13, Str (bytesK A.ls (plcH A.ls.length xs i))), (14, ints (natI (plcH A.ls.length xs i))), (15, I i), (90, B (decide (i < min xs.length 5)))]) (fun _ => []) (fun _ => []) ?_ (fun _ _ => ?_)
      · have hdn : (xs.map fun c => [U c.toNat]).length = xs.length := List.length_map _
        by_cases hc : i < xs.length
        · have h1 : decide ((i : Int) < ((xs.map fun c => [U c.toNat]).length : Int)) = true := decide_eq_true (by rw [hdn]; omega)
          refine LWp.x (gs := [(87, true)]) (hs := []) rfl (by (repeat' (with_reducible apply And.intro)); (all_goals try first | (with_reducible exact trivial) | (with_reducible rfl) | (with_reducible assumption) | ((with_reducible apply isB); first | exact rfl | exact beq_self_eq_true _))) ?_
          refine ⟨(), trivial, Ent.el ⟨rfl, rfl, rfl, rfl, rfl, rfl, rfl, rfl, ?_, trivial⟩⟩
          have e : decide (i < min xs.length 5) = decide ((i : Int) < 5) := by rw [Bool.eq_iff_iff]; simp; omega
          rw [e]; rfl
        · have h1 : decide ((i : Int) < ((xs.map fun c => [U c.toNat]).length : Int)) = false := decide_eq_false (by rw [hdn]; omega)
          refine LWp.x (gs := [(87, false)]) (hs := []) rfl (by (repeat' (with_reducible apply And.intro)); (all_goals try first | (with_reducible exact trivial) | (with_reducible rfl) | (with_reducible assumption) | ((with_reducible apply isB); first | exact rfl | exact beq_self_eq_true _))) ?_
          refine ⟨(), trivial, Ent.el ⟨rfl, rfl, rfl, rfl, rfl, rfl, rfl, rfl, ?_, trivial⟩⟩
          rw [decide_eq_false (show ¬ i < min xs.length 5 by omega)]; rfl
      refine LWp.ite rfl (fun hc => ?_) (fun hc => ?_)
      · simp only [decide_eq_true_eq] at hc
        obtain ⟨c, hcc⟩ := ex_get (show i < xs.length by omega)
        have hcl := c.toNat_lt
        have hsl : (plcH A.ls.length xs i).length ≤ 5 := by unfold plcH; rw [List.length_map, List.length_take]; omega
        have hmod : (c.toNat : Int) % ((A.ls.map Letter.enc).length : Int) = ((c.toNat % A.ls.length : Nat) : Int) := by rw [hlln, Int.natCast_emod]
        have hkl := Nat.mod_lt c.toNat (show 0 < A.ls.length by omega)
        refine LWp.skip ?_
        refine LWp.blockX (fun _ : Unit => True) (fun _ => el [(3, .pi b.enc), (6, bytes xs), (9, I a0), (10, letters A.ls), (11, ints sd), (13, Str (bytesK A.ls (plcH A.ls.length xs (i + 1)))), (14, ints (natI (plcH A.ls.length xs (i + 1)))), (15, I i)]) (fun _ => []) (fun _ => []) ?_ ?_
        · rw [plcH_succ _ hcc]
          generalize plcH A.ls.length xs i = pm at hsl
          refine LWp.sx (gs := []) (hs := [.cells [U c.toNat]]) rfl ⟨⟨by omega, by simp [hcc]⟩, i64_wrap (by omega) (by omega), ⟨by omega, by rw [hlln]; omega⟩, trivial⟩ ?_
          generalize hkk : c.toNat % A.ls.length = k at hmod hkl
          refine LWp.ent (Ent.el (l := [(3, .pi b.enc), (6, bytes xs), (9, I a0), (10, letters A.ls), (11, ints sd), (13, Str (bytesK A.ls pm)), (14, ints (natI pm)), (15, I i), (16, I k)]) ⟨rfl, rfl, rfl, rfl, rfl, rfl, rfl, rfl, by show I _ = I _; rw [← hmod], trivial⟩) ?_
          have hg := atK_get hkl
          obtain ⟨c0, c1⟩ := D.ok _ (List.mem_of_getElem? hg)
          have hnl : (natI pm).length ≤ 5 := by rw [natI_len]; exact hsl
          have hbl : (bytesK A.ls pm).length ≤ 5 := by simpa [bytesK] using hsl
          refine LWp.dd (gs := []) (hs := [.cells (atK A.ls k).enc, .op (Str [byteK A.ls k]), .lin, .ice]) hmix rfl (by kernel_rfl) ⟨⟨by omega, by simp [hg]⟩, rune_wrap c0 c1, op_rune rfl c0 c1, by show (bytesK A.ls pm).length + 1 ≤ _; omega, rfl, ⟨by simp [chunk]; omega, by simp [chunk]; omega⟩, rfl, ⟨by simp [chunk]; omega, by simp [chunk]; omega⟩, trivial⟩ ?_
          refine ⟨(), trivial, Ent.trans (Ent.freezeLin (t := 14) rfl) (Ent.el ⟨rfl, rfl, rfl, rfl, rfl, ?_, ?_, rfl, trivial⟩)⟩
          · exact str_snoc A.ls pm k
          · exact ints_snoc pm k
        · intro _ _
          refine LWp.x (gs := []) (hs := []) rfl ⟨by omega, trivial⟩ ?_
          exact ⟨i + 1, by omega, by omega, Ent.el ⟨rfl, rfl, rfl, rfl, rfl, rfl, rfl, rfl, trivial⟩⟩
      · simp only [decide_eq_false_iff_not] at hc
        have e : i = min xs.length 5 := by omega
        subst e
        exact LWp.exit ⟨(), trivial, Ent.el ⟨rfl, rfl, rfl, rfl, rfl, rfl, trivial⟩⟩
    intro _ _
    have pm5 : (plcH A.ls.length xs (min xs.length 5)).length ≤ 5 := by unfold plcH; rw [List.length_map, List.length_take]; omega
    have pmk : ∀ k ∈ plcH A.ls.length xs (min xs.length 5), k < A.ls.length := by
      intro k hk
      unfold plcH at hk
      obtain ⟨c, _, rfl⟩ := List.mem_map.1 hk
      exact Nat.mod_lt _ (by omega)
    generalize plcH A.ls.length xs (min xs.length 5) = pm at pm5 pmk
    have esp := espell_ev b hw hal a0 sd
    have hsp := spell_of V hA sd5 sdv
    generalize hre : spellR b a0 sd = re at esp hsp
    obtain ⟨t, e⟩ := re
    refine LWp.sx (gs := []) (hs := [.ret (.tup [Str t, I e])]) rfl ⟨esp, trivial⟩ ?_
    refine LWp.sx (gs := []) (hs := []) rfl trivial ?_
    -- whether the other text can be heard so
    refine LWp.cutX (fun can : Bool => can = true ↔ pm ≠ [] ∧ Says b.n.toNat (lets A.ls pm) sd) (fun can => el [(3, .pi b.enc), (9, I a0), (10, letters A.ls), (11, ints sd), (14, ints (natI pm)), (17, Str t), (18, I e), (19, B can)]) (fun _ => []) (fun _ => []) ?_ ?_
    · refine LWp.seq ?_
      refine LWp.x (gs := []) (hs := []) rfl trivial ?_
      refine LWp.ite rfl (fun hl => ?_) (fun hl => ?_)
      · have hp : 1 ≤ pm.length := by
          have : 0 < (bytesK A.ls pm).length := by simpa [ByteArray.size] using hl
          have h : 0 < pm.length := by simpa [bytesK] using this
          omega
        have V1 := spelt_valid V hA pmk hp pm5
        have w1 := spelt_wf hw (a0 := a0) (by omega) (t := bytesK A.ls pm) (by simp [bytesK]; omega)
        have er := ereads_ev (b.of [⟨a0, bytesK A.ls pm⟩]) w1 (by show 1 ≤ _; omega) 0 sd
        have err := reads_of V1 w1 (i := 0) (by show 0 < 1; omega) sd5 sdv
        have err : readsR (b.of [⟨a0, bytesK A.ls pm⟩]) 0 sd = (decide (sd ∈ hearS (b.of [⟨a0, bytesK A.ls pm⟩]) 0), 0) := err
        rw [err] at er
        refine LWp.sx (gs := []) (hs := [.lin]) rfl ⟨rfl, ⟨rfl, rfl, rfl, Nat.le_refl 3⟩, trivial⟩ ?_
        refine LWp.shareB (t := 20) rfl (fun b2 => ?_)
        refine LWp.shx (gs := []) (hs := [.ice, .stO 0]) rfl ⟨rfl, ⟨rfl, rfl, rfl, rfl, Nat.le_refl 3⟩, trivial⟩ ?_
        refine LWp.ent (Ent.trans (Ent.freezeBox (t := 20) (i := 0) rfl rfl) (Ent.el (l := [(3, .pi b.enc), (9, I a0), (10, letters A.ls), (11, ints sd), (14, ints (natI pm)), (17, Str t), (18, I e), (20, .pi (b.of [⟨a0, bytesK A.ls pm⟩]).enc)]) ⟨rfl, rfl, rfl, rfl, rfl, rfl, rfl, rfl, trivial⟩)) ?_
        refine LWp.sx (gs := []) (hs := [.ret (.tup [B (decide (sd ∈ hearS (b.of [⟨a0, bytesK A.ls pm⟩]) 0)), I 0])]) rfl ⟨er, trivial⟩ ?_
        refine LWp.seq (LWp.seq ?_)
        refine LWp.x (gs := []) (hs := []) rfl trivial ?_
        refine LWp.ite (b := false) rfl (fun h => by cases h) (fun _ => LWp.skip ?_)
        refine LWp.x (gs := []) (hs := []) rfl trivial ?_
        refine ⟨_, ?_, Ent.el ⟨rfl, rfl, rfl, rfl, rfl, rfl, rfl, rfl, trivial⟩⟩
        rw [decide_eq_true_iff, spelt_hear V hA pmk]
        exact ⟨fun h => ⟨by intro e; rw [e] at hp; simp at hp, h⟩, fun h => h.2⟩
      · refine LWp.skip ⟨false, ?_, Ent.el ⟨rfl, rfl, rfl, rfl, rfl, rfl, rfl, rfl, trivial⟩⟩
        have hp : pm = [] := by
          have : ¬ 0 < (bytesK A.ls pm).length := by simpa [ByteArray.size] using hl
          simpa [bytesK] using this
        simp [hp]
    intro can hcan
    refine LWp.seq (LWp.seq ?_)
    refine LWp.x (gs := []) (hs := []) rfl trivial ?_
    rcases hsp with ⟨ks, e1, k1, k5, kk, ksay, kmin⟩ | ⟨e1, kno⟩
    · simp only [Prod.mk.injEq] at e1
      obtain ⟨rfl, rfl⟩ := e1
      refine LWp.ite (b := false) rfl (fun h => by cases h) (fun _ => LWp.skip ?_)
      have V1 := spelt_valid V hA kk k1 k5
      have w1 := spelt_wf hw (a0 := a0) (by omega) (t := bytesK A.ls ks) (by simp [bytesK]; omega)
      have hmem := (spelt_hear V hA kk sd).2 ksay
      have er := ereads_ev (b.of [⟨a0, bytesK A.ls ks⟩]) w1 (by show 1 ≤ _; omega) 0 sd
      have err := reads_of V1 w1 (i := 0) (by show 0 < 1; omega) sd5 sdv
      have err : readsR (b.of [⟨a0, bytesK A.ls ks⟩]) 0 sd = (decide (sd ∈ hearS (b.of [⟨a0, bytesK A.ls ks⟩]) 0), 0) := err
      rw [err, decide_eq_true hmem] at er
      have ev1 := valid_ev _ w1
      rw [validB_iff.2 V1] at ev1
      refine LWp.sx (gs := []) (hs := [.lin]) rfl ⟨rfl, ⟨rfl, rfl, rfl, Nat.le_refl 3⟩, trivial⟩ ?_
      refine LWp.shareB (t := 23) rfl (fun b2 => ?_)
      refine LWp.shx (gs := []) (hs := [.ice, .stO 0]) rfl ⟨rfl, ⟨rfl, rfl, rfl, rfl, Nat.le_refl 3⟩, trivial⟩ ?_
      refine LWp.ent (Ent.trans (Ent.freezeBox (t := 23) (i := 0) rfl rfl) (Ent.el (l := [(10, letters A.ls), (11, ints sd), (14, ints (natI pm)), (17, Str (bytesK A.ls ks)), (19, B can), (23, .pi (b.of [⟨a0, bytesK A.ls ks⟩]).enc)]) ⟨rfl, rfl, rfl, rfl, rfl, rfl, trivial⟩)) ?_
      refine LWp.seq (LWp.seq ?_)
      refine LWp.x (gs := []) (hs := [.ret (B true)]) rfl ⟨ev1, trivial⟩ ?_
      refine LWp.ite (b := false) rfl (fun h => by cases h) (fun _ => LWp.skip ?_)
      refine LWp.sx (gs := []) (hs := [.ret (.tup [B true, I 0])]) rfl ⟨er, trivial⟩ ?_
      refine LWp.sx (gs := []) (hs := []) rfl trivial ?_
      refine LWp.seq (LWp.seq ?_)
      refine LWp.x (gs := []) (hs := []) rfl trivial ?_
      have hbl : (bytesK A.ls ks).length = ks.length := by simp [bytesK]
      refine LWp.blockT (fun _ : Unit => True) (fun _ => el [(14, ints (natI pm)), (19, B can), (24, B true), (25, I 0), (26, ints (natI ks))]) (fun _ => []) (fun _ => []) ?_ ?_
      · refine LWp.loopN (fun i : Nat => i ≤ ks.length) (fun i => el [(10, letters A.ls), (14, ints (natI pm)), (17, Str (bytesK A.ls ks)), (19, B can), (24, B true), (25, I 0), (26, linI (natI (ks.take i))), (27, I i)]) (fun _ => []) (fun _ => []) (fun i => ks.length - i) 0 (by omega)
          (Ent.trans (Ent.nilLin (t := 26) 3 1 rfl) (Ent.el ⟨rfl, rfl, rfl, rfl, rfl, rfl, rfl, rfl, trivial⟩)) ?_
        intro i hi
        refine LWp.seq (LWp.seq ?_)
        refine LWp.x (gs := []) (hs := []) rfl trivial ?_
        refine LWp.ite rfl (fun hc => ?_) (fun hc => ?_)
        · have hc : i < ks.length := by
            have : i < (bytesK A.ls ks).length := by simpa [ByteArray.size] using hc
            omega
          obtain ⟨k, hk⟩ := ex_get hc
          have hkl := kk k (List.mem_of_getElem? hk)
          have hbk : (bytesK A.ls ks)[i]? = some (byteK A.ls k) := by unfold bytesK; rw [List.getElem?_map, hk]; rfl
          have htk : ks.take (i + 1) = ks.take i ++ [k] := by rw [List.take_add_one, hk]; rfl
          have htl : (natI (ks.take i)).length ≤ 5 := by rw [natI_len, List.length_take]; omega
          refine LWp.skip ?_
          refine LWp.blockX (fun _ : Unit => True) (fun _ => el [(10, letters A.ls), (14, ints (natI pm)), (17, Str (bytesK A.ls ks)), (19, B can), (24, B true), (25, I 0), (26, linI (natI (ks.take (i + 1)))), (27, I i)]) (fun _ => []) (fun _ => []) ?_ ?_
          · rw [htk, natI_append]
            generalize natI (ks.take i) = rm at htl
            refine LWp.seq ?_
            refine LWp.x (gs := []) (hs := []) rfl trivial ?_
            refine LWp.block ?_
            refine LWp.loopN (fun j : Nat => j ≤ A.ls.length) (fun j => el [(10, letters A.ls), (14, ints (natI pm)), (17, Str (bytesK A.ls ks)), (19, B can), (24, B true), (25, I 0), (26, linI (rm ++ if k < j then [(k : Int)] else [])), (27, I i), (28, I j)]) (fun _ => []) (fun _ => []) (fun j => A.ls.length - j) 0 (by omega)
              (Ent.el ⟨rfl, rfl, rfl, rfl, rfl, rfl, by rw [if_neg (by omega), List.append_nil]; rfl, rfl, rfl, trivial⟩) ?_
            intro j hj
            refine LWp.seq (LWp.seq ?_)
            refine LWp.x (gs := []) (hs := []) rfl trivial ?_
            refine LWp.ite rfl (fun hjc => ?_) (fun hjc => ?_)
            · simp only [List.length_map, decide_eq_true_eq, Int.ofNat_lt] at hjc
              obtain ⟨y, hy⟩ := ex_get hjc
              refine LWp.skip ?_
              refine LWp.blockX (fun _ : Unit => True) (fun _ => el [(10, letters A.ls), (14, ints (natI pm)), (17, Str (bytesK A.ls ks)), (19, B can), (24, B true), (25, I 0), (26, linI (rm ++ if k < j + 1 then [(k : Int)] else [])), (27, I i), (28, I j)]) (fun _ => []) (fun _ => []) ?_ ?_
              · refine LWp.seq ?_
                refine LWp.dd (gs := []) (hs := [.cells y.enc, .byte (byteK A.ls k)]) hmix rfl (by kernel_rfl) ⟨⟨by omega, by simp [hy]⟩, ⟨by omega, by simpa using hbk⟩, trivial⟩ ?_
                refine LWp.ite rfl (fun he => ?_) (fun he => ?_)
                · have he : y.c = (byteK A.ls k).toNat := by simpa using he
                  have hyk : y = atK A.ls k := letter_uniq D.nd (List.mem_of_getElem? hy) (List.mem_of_getElem? (atK_get hkl)) (he.trans (byteK_toNat D hkl))
                  have hjk : j = k := by
                    apply Decidable.byContradiction
                    intro hne
                    rcases Nat.lt_or_gt_of_ne hne with h | h
                    · exact (nodup_iff_take (·.c) A.ls).1 D.nd k _ (atK_get hkl) y (List.mem_iff_getElem?.2 ⟨j, by rw [List.getElem?_take, if_pos h, hy]⟩) (by rw [hyk])
                    · exact (nodup_iff_take (·.c) A.ls).1 D.nd j y hy (atK A.ls k) (List.mem_iff_getElem?.2 ⟨k, by rw [List.getElem?_take, if_pos h]; exact atK_get hkl⟩) (by rw [hyk])
                  subst hjk
                  have i1 : (if j < j then [(j : Int)] else []) = [] := if_neg (by omega)
                  have i2 : (if j < j + 1 then [(j : Int)] else []) = [(j : Int)] := if_pos (by omega)
                  rw [i1, i2, List.append_nil]
                  refine LWp.x (gs := []) (hs := [.ice]) rfl ⟨rfl, ⟨by simp [chunk]; omega, by simp [chunk]; omega⟩, trivial⟩ ?_
                  refine ⟨(), trivial, Ent.el ⟨rfl, rfl, rfl, rfl, rfl, rfl, ?_, rfl, rfl, trivial⟩⟩
                  exact lin_snoc _ _
                · have he : y.c ≠ (byteK A.ls k).toNat := by simpa using he
                  have hjk : j ≠ k := by
                    intro e
                    subst e
                    rw [atK_get hkl] at hy
                    cases hy
                    exact he (byteK_toNat D hkl).symm
                  have hif : (if k < j + 1 then [(k : Int)] else []) = if k < j then [(k : Int)] else [] := by
                    by_cases h : k < j
                    · rw [if_pos h, if_pos (by omega)]
                    · rw [if_neg h, if_neg (by omega)]
                  rw [hif]
                  exact LWp.skip ⟨(), trivial, Ent.el ⟨rfl, rfl, rfl, rfl, rfl, rfl, rfl, rfl, rfl, trivial⟩⟩
              · intro _ _
                refine LWp.x (gs := []) (hs := []) rfl ⟨by omega, trivial⟩ ?_
                exact ⟨j + 1, by omega, by omega, Ent.el ⟨rfl, rfl, rfl, rfl, rfl, rfl, rfl, rfl, rfl, trivial⟩⟩
            · simp only [List.length_map, decide_eq_false_iff_not, Int.ofNat_lt] at hjc
              rw [if_pos (by omega)]
              exact LWp.exit ⟨(), trivial, Ent.el ⟨rfl, rfl, rfl, rfl, rfl, rfl, rfl, rfl, trivial⟩⟩
          · intro _ _
            refine LWp.x (gs := []) (hs := []) rfl ⟨by omega, trivial⟩ ?_
            exact ⟨i + 1, by omega, by omega, Ent.el ⟨rfl, rfl, rfl, rfl, rfl, rfl, rfl, rfl, trivial⟩⟩
        · have hc : ¬ i < ks.length := by
            have : ¬ i < (bytesK A.ls ks).length := by simpa [ByteArray.size] using hc
            omega
          have e : ks.take i = ks := List.take_of_length_le (by omega)
          rw [e]
          exact LWp.exit ⟨(), trivial, Ent.trans (Ent.freezeLin (t := 26) rfl) (Ent.el ⟨rfl, rfl, rfl, rfl, rfl, trivial⟩)⟩
      intro _ _
      cases can with
      | false =>
        refine LWp.sx (gs := [(198, true), (201, true), (204, true), (211, true)]) (hs := [.ret (B true)]) rfl (by (repeat' (with_reducible apply And.intro)); (all_goals try first | (with_reducible exact trivial) | (with_reducible rfl) | (with_reducible assumption) | ((with_reducible apply isB); first | exact rfl | exact beq_self_eq_true _)); exact awake_ev) ?_
        refine LWp.ret (retT (.inr rfl) (.one (.tmp ?_ rfl)))
        rfl
      | true =>
        obtain ⟨c1, c2⟩ := hcan.1 rfl
        have hf := fewer_ev (natI pm) (natI ks)
        rw [kmin pm (List.length_pos_iff.2 c1) pm5 pmk c2] at hf
        refine LWp.sx (gs := [(198, true), (201, true), (204, false), (211, true)]) (hs := [.ret (B false), .ret (B true)]) rfl (by (repeat' (with_reducible apply And.intro)); (all_goals try first | (with_reducible exact trivial) | (with_reducible rfl) | (with_reducible assumption) | ((with_reducible apply isB); first | exact rfl | exact beq_self_eq_true _)); exact hf; exact awake_ev) ?_
        refine LWp.ret (retT (.inr rfl) (.one (.tmp ?_ rfl)))
        rfl
    · simp only [Prod.mk.injEq] at e1
      obtain ⟨rfl, rfl⟩ := e1
      refine LWp.ite (b := true) rfl (fun _ => ?_) (fun h => by cases h)
      have hcf : can = false := by
        cases can with
        | false => rfl
        | true =>
          obtain ⟨c1, c2⟩ := hcan.1 rfl
          exact absurd c2 (kno pm (List.length_pos_iff.2 c1) pm5 pmk)
      subst hcf
      refine LWp.sx (gs := [(145, true), (149, true), (153, true)]) (hs := [.ret (B true)]) rfl (by (repeat' (with_reducible apply And.intro)); (all_goals try first | (with_reducible exact trivial) | (with_reducible rfl) | (with_reducible assumption) | ((with_reducible apply isB); first | exact rfl | exact beq_self_eq_true _)); exact awake_ev) ?_
      refine LWp.ret (retT (.inr rfl) (.one (.tmp ?_ rfl)))
      rfl
  · have hv : validB b = false := by
      cases h : validB b with
      | false => rfl
      | true => exact absurd (validB_iff.1 h) V
    rw [hv] at ev
    have esp := espell_ev b hw hal 0 []
    have hq := spell_bad V 0 []
    generalize (spellR b 0 []).1 = p1 at esp
    generalize (spellR b 0 []).2 = q1 at esp hq
    have hqt : (q1 != 0) = true := by simpa using hq
    refine LWp.x (gs := []) (hs := [.ret (B false)]) rfl ⟨ev, trivial⟩ ?_
    refine LWp.ite (b := true) rfl (fun _ => ?_) (fun h => by cases h)
    refine LWp.sx (gs := []) (hs := [.retS [.agg b.enc, I 0, ints []] (.tup [Str p1, I q1])]) rfl ⟨⟨esp, .cons (.cons (.nilSl (.refl _)))⟩, trivial⟩ ?_
    refine LWp.sx (gs := [(47, true)]) (hs := [.ret (B true)]) rfl (by (repeat' (with_reducible apply And.intro)); (all_goals try first | (with_reducible exact trivial) | (with_reducible rfl) | (with_reducible assumption) | ((with_reducible apply isB); first | exact rfl | exact beq_self_eq_true _)); exact awake_ev) ?_
    refine LWp.ret (retT (.inr rfl) (.one (.tmp ?_ rfl)))
    rfl
end Go.Px

