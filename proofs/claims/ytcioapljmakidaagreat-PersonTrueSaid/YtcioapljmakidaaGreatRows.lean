/-
  No cell of these rows narrows 'for every input' (looked for: loops, veiled, ifaces, maps, wideKeys, modest, calm, conditions, laid).
  DERIVED. THE GIVEN ROWS OF THIS SEAT. 12 by the template 'for every input the law returns true; each argument reads behind the call as it read before'; 0 by the template 'total and deterministic' (their statements: YtcioapljmakidaaGreatTotals.lean).
  GIVEN WITH THE SEED: the statements are not yours to turn. If you find one false, say at which input.
  Laid BY PROGRAM, IN A SANDBOX (cutbox-rows.mjs): the forced cells as the released guide's own fill.sh prints them over the translation 739c9383b5164ec1… (all of the seat's roots in one cut). By AI agents, Wed Nov 11 2026. No macro, syntax, notation, axiom, sorry.
-/
import Derived.Test.YtcioapljmakidaaGreatChecked
import GoSem.Claim
import GoSem.ClaimJoined
import GoSem.ClaimMapViews
import Derived.JoinedTies
import Derived.KernelRfl
namespace Go.Proofs.YtcioapljmakidaaGreat
/- THE CELL 'sum', in the pinned program and in every row, IS THE sha256 OF THE DUMP (.gsa) THAT YtcioapljmakidaaGreatProg.lean LOADS. Nothing in Lean hashes anything: it is a label: what it is worth is what the hold of that sum in a sandbox is worth. -/
noncomputable def Tryz.pinned : Pinned := { name := "ytcioapljmakidaagreat", sum := "739c9383b5164ec132240f10314c874453fa6be772e7793586cc880932ca709a", checked := Tryz.checked }
namespace Rows
def none {H : Type} : Left H := { results := [], args := [] }

/-- 'escribanolaw03.PersonFirsts': WHATEVER THE INPUT: true; the input reads as it did. -/
def personFirstsSpec : ChangeSpec := { name := "personFirsts", fn := fun _ => fun
  | [d1, d2] => { results := [.lit (.bool true)], args := [d1, d2] }
  | _ => none }
def personFirstsRow : OpenClaim := { program := "ytcioapljmakidaagreat", sum := "739c9383b5164ec132240f10314c874453fa6be772e7793586cc880932ca709a", func := "escribano/escribanolaw03.PersonFirsts", spec := "personFirsts", unfollowed := true, recurses := true, plainKeys := false, apart := false }
def PersonFirstsSaid : Prop := personFirstsRow.holds Tryz.pinned (OpenSpec.ofChange personFirstsSpec)

/-- ITS FALSE NEIGHBOUR: 'it returns false'. Refute it at one input. -/
def personFirstsWrong : ChangeSpec := { name := "personFirsts", fn := fun _ => fun
  | [d1, d2] => { results := [.lit (.bool false)], args := [d1, d2] }
  | _ => none }
def PersonFirstsWrongFalsely : Prop := personFirstsRow.holds Tryz.pinned (OpenSpec.ofChange personFirstsWrong)

/-- 'escribanolaw03.PersonBorns': WHATEVER THE INPUT: true; the input reads as it did. -/
def personBornsSpec : ChangeSpec := { name := "personBorns", fn := fun _ => fun
  | [d1, d2] => { results := [.lit (.bool true)], args := [d1, d2] }
  | _ => none }
def personBornsRow : OpenClaim := { program := "ytcioapljmakidaagreat", sum := "739c9383b5164ec132240f10314c874453fa6be772e7793586cc880932ca709a", func := "escribano/escribanolaw03.PersonBorns", spec := "personBorns", unfollowed := true, recurses := true, plainKeys := false, apart := false }
def PersonBornsSaid : Prop := personBornsRow.holds Tryz.pinned (OpenSpec.ofChange personBornsSpec)

/-- ITS FALSE NEIGHBOUR: 'it returns false'. Refute it at one input. -/
def personBornsWrong : ChangeSpec := { name := "personBorns", fn := fun _ => fun
  | [d1, d2] => { results := [.lit (.bool false)], args := [d1, d2] }
  | _ => none }
def PersonBornsWrongFalsely : Prop := personBornsRow.holds Tryz.pinned (OpenSpec.ofChange personBornsWrong)

/-- 'escribanolaw03.PersonWhys': WHATEVER THE INPUT: true; the input reads as it did. -/
def personWhysSpec : ChangeSpec := { name := "personWhys", fn := fun _ => fun
  | [d1, d2, d3] => { results := [.lit (.bool true)], args := [d1, d2, d3] }
  | _ => none }
def personWhysRow : OpenClaim := { program := "ytcioapljmakidaagreat", sum := "739c9383b5164ec132240f10314c874453fa6be772e7793586cc880932ca709a", func := "escribano/escribanolaw03.PersonWhys", spec := "personWhys", unfollowed := true, recurses := true, plainKeys := false, apart := false }
def PersonWhysSaid : Prop := personWhysRow.holds Tryz.pinned (OpenSpec.ofChange personWhysSpec)

/-- ITS FALSE NEIGHBOUR: 'it returns false'. Refute it at one input. -/
def personWhysWrong : ChangeSpec := { name := "personWhys", fn := fun _ => fun
  | [d1, d2, d3] => { results := [.lit (.bool false)], args := [d1, d2, d3] }
  | _ => none }
def PersonWhysWrongFalsely : Prop := personWhysRow.holds Tryz.pinned (OpenSpec.ofChange personWhysWrong)

/-- 'escribanolaw03.PersonWrongs': WHATEVER THE INPUT: true; the input reads as it did. -/
def personWrongsSpec : ChangeSpec := { name := "personWrongs", fn := fun _ => fun
  | [d] => { results := [.lit (.bool true)], args := [d] }
  | _ => none }
def personWrongsRow : OpenClaim := { program := "ytcioapljmakidaagreat", sum := "739c9383b5164ec132240f10314c874453fa6be772e7793586cc880932ca709a", func := "escribano/escribanolaw03.PersonWrongs", spec := "personWrongs", unfollowed := true, recurses := true, plainKeys := false, apart := false }
def PersonWrongsSaid : Prop := personWrongsRow.holds Tryz.pinned (OpenSpec.ofChange personWrongsSpec)

/-- ITS FALSE NEIGHBOUR: 'it returns false'. Refute it at one input. -/
def personWrongsWrong : ChangeSpec := { name := "personWrongs", fn := fun _ => fun
  | [d] => { results := [.lit (.bool false)], args := [d] }
  | _ => none }
def PersonWrongsWrongFalsely : Prop := personWrongsRow.holds Tryz.pinned (OpenSpec.ofChange personWrongsWrong)

/-- 'escribanolaw03.PersonTrue': WHATEVER THE INPUT: true; the input reads as it did. -/
def personTrueSpec : ChangeSpec := { name := "personTrue", fn := fun _ => fun
  | [d1, d2, d3] => { results := [.lit (.bool true)], args := [d1, d2, d3] }
  | _ => none }
def personTrueRow : OpenClaim := { program := "ytcioapljmakidaagreat", sum := "739c9383b5164ec132240f10314c874453fa6be772e7793586cc880932ca709a", func := "escribano/escribanolaw03.PersonTrue", spec := "personTrue", unfollowed := true, recurses := true, plainKeys := false, apart := false }
def PersonTrueSaid : Prop := personTrueRow.holds Tryz.pinned (OpenSpec.ofChange personTrueSpec)

/-- ITS FALSE NEIGHBOUR: 'it returns false'. Refute it at one input. -/
def personTrueWrong : ChangeSpec := { name := "personTrue", fn := fun _ => fun
  | [d1, d2, d3] => { results := [.lit (.bool false)], args := [d1, d2, d3] }
  | _ => none }
def PersonTrueWrongFalsely : Prop := personTrueRow.holds Tryz.pinned (OpenSpec.ofChange personTrueWrong)

/-- 'escribanolaw03.PersonJoined': WHATEVER THE INPUT: true; the input reads as it did. -/
def personJoinedSpec : ChangeSpec := { name := "personJoined", fn := fun _ => fun
  | [d1, d2, d3] => { results := [.lit (.bool true)], args := [d1, d2, d3] }
  | _ => none }
def personJoinedRow : OpenClaim := { program := "ytcioapljmakidaagreat", sum := "739c9383b5164ec132240f10314c874453fa6be772e7793586cc880932ca709a", func := "escribano/escribanolaw03.PersonJoined", spec := "personJoined", unfollowed := true, recurses := true, plainKeys := false, apart := false }
def PersonJoinedSaid : Prop := personJoinedRow.holds Tryz.pinned (OpenSpec.ofChange personJoinedSpec)

/-- ITS FALSE NEIGHBOUR: 'it returns false'. Refute it at one input. -/
def personJoinedWrong : ChangeSpec := { name := "personJoined", fn := fun _ => fun
  | [d1, d2, d3] => { results := [.lit (.bool false)], args := [d1, d2, d3] }
  | _ => none }
def PersonJoinedWrongFalsely : Prop := personJoinedRow.holds Tryz.pinned (OpenSpec.ofChange personJoinedWrong)

/-- 'escribanolaw03.PersonApart': WHATEVER THE INPUT: true; the input reads as it did. -/
def personApartSpec : ChangeSpec := { name := "personApart", fn := fun _ => fun
  | [d1, d2] => { results := [.lit (.bool true)], args := [d1, d2] }
  | _ => none }
def personApartRow : OpenClaim := { program := "ytcioapljmakidaagreat", sum := "739c9383b5164ec132240f10314c874453fa6be772e7793586cc880932ca709a", func := "escribano/escribanolaw03.PersonApart", spec := "personApart", unfollowed := true, recurses := true, plainKeys := false, apart := false }
def PersonApartSaid : Prop := personApartRow.holds Tryz.pinned (OpenSpec.ofChange personApartSpec)

/-- ITS FALSE NEIGHBOUR: 'it returns false'. Refute it at one input. -/
def personApartWrong : ChangeSpec := { name := "personApart", fn := fun _ => fun
  | [d1, d2] => { results := [.lit (.bool false)], args := [d1, d2] }
  | _ => none }
def PersonApartWrongFalsely : Prop := personApartRow.holds Tryz.pinned (OpenSpec.ofChange personApartWrong)

/-- 'escribanolaw03.PersonFewest': WHATEVER THE INPUT: true; the input reads as it did. -/
def personFewestSpec : ChangeSpec := { name := "personFewest", fn := fun _ => fun
  | [d1, d2] => { results := [.lit (.bool true)], args := [d1, d2] }
  | _ => none }
def personFewestRow : OpenClaim := { program := "ytcioapljmakidaagreat", sum := "739c9383b5164ec132240f10314c874453fa6be772e7793586cc880932ca709a", func := "escribano/escribanolaw03.PersonFewest", spec := "personFewest", unfollowed := true, recurses := true, plainKeys := false, apart := false }
def PersonFewestSaid : Prop := personFewestRow.holds Tryz.pinned (OpenSpec.ofChange personFewestSpec)

/-- ITS FALSE NEIGHBOUR: 'it returns false'. Refute it at one input. -/
def personFewestWrong : ChangeSpec := { name := "personFewest", fn := fun _ => fun
  | [d1, d2] => { results := [.lit (.bool false)], args := [d1, d2] }
  | _ => none }
def PersonFewestWrongFalsely : Prop := personFewestRow.holds Tryz.pinned (OpenSpec.ofChange personFewestWrong)

/-- 'escribanolaw03.PersonWho': WHATEVER THE INPUT: true; the input reads as it did. -/
def personWhoSpec : ChangeSpec := { name := "personWho", fn := fun _ => fun
  | [d1, d2, d3] => { results := [.lit (.bool true)], args := [d1, d2, d3] }
  | _ => none }
def personWhoRow : OpenClaim := { program := "ytcioapljmakidaagreat", sum := "739c9383b5164ec132240f10314c874453fa6be772e7793586cc880932ca709a", func := "escribano/escribanolaw03.PersonWho", spec := "personWho", unfollowed := true, recurses := true, plainKeys := false, apart := false }
def PersonWhoSaid : Prop := personWhoRow.holds Tryz.pinned (OpenSpec.ofChange personWhoSpec)

/-- ITS FALSE NEIGHBOUR: 'it returns false'. Refute it at one input. -/
def personWhoWrong : ChangeSpec := { name := "personWho", fn := fun _ => fun
  | [d1, d2, d3] => { results := [.lit (.bool false)], args := [d1, d2, d3] }
  | _ => none }
def PersonWhoWrongFalsely : Prop := personWhoRow.holds Tryz.pinned (OpenSpec.ofChange personWhoWrong)

/-- 'escribanolaw03.PersonSurely': WHATEVER THE INPUT: true; the input reads as it did. -/
def personSurelySpec : ChangeSpec := { name := "personSurely", fn := fun _ => fun
  | [d1, d2] => { results := [.lit (.bool true)], args := [d1, d2] }
  | _ => none }
def personSurelyRow : OpenClaim := { program := "ytcioapljmakidaagreat", sum := "739c9383b5164ec132240f10314c874453fa6be772e7793586cc880932ca709a", func := "escribano/escribanolaw03.PersonSurely", spec := "personSurely", unfollowed := true, recurses := true, plainKeys := false, apart := false }
def PersonSurelySaid : Prop := personSurelyRow.holds Tryz.pinned (OpenSpec.ofChange personSurelySpec)

/-- ITS FALSE NEIGHBOUR: 'it returns false'. Refute it at one input. -/
def personSurelyWrong : ChangeSpec := { name := "personSurely", fn := fun _ => fun
  | [d1, d2] => { results := [.lit (.bool false)], args := [d1, d2] }
  | _ => none }
def PersonSurelyWrongFalsely : Prop := personSurelyRow.holds Tryz.pinned (OpenSpec.ofChange personSurelyWrong)

/-- 'escribanolaw03.PersonOlder': WHATEVER THE INPUT: true; the input reads as it did. -/
def personOlderSpec : ChangeSpec := { name := "personOlder", fn := fun _ => fun
  | [d] => { results := [.lit (.bool true)], args := [d] }
  | _ => none }
def personOlderRow : OpenClaim := { program := "ytcioapljmakidaagreat", sum := "739c9383b5164ec132240f10314c874453fa6be772e7793586cc880932ca709a", func := "escribano/escribanolaw03.PersonOlder", spec := "personOlder", unfollowed := true, recurses := true, plainKeys := false, apart := false }
def PersonOlderSaid : Prop := personOlderRow.holds Tryz.pinned (OpenSpec.ofChange personOlderSpec)

/-- ITS FALSE NEIGHBOUR: 'it returns false'. Refute it at one input. -/
def personOlderWrong : ChangeSpec := { name := "personOlder", fn := fun _ => fun
  | [d] => { results := [.lit (.bool false)], args := [d] }
  | _ => none }
def PersonOlderWrongFalsely : Prop := personOlderRow.holds Tryz.pinned (OpenSpec.ofChange personOlderWrong)

/-- 'escribanolaw03.PersonWider': WHATEVER THE INPUT: true; the input reads as it did. -/
def personWiderSpec : ChangeSpec := { name := "personWider", fn := fun _ => fun
  | [d1, d2] => { results := [.lit (.bool true)], args := [d1, d2] }
  | _ => none }
def personWiderRow : OpenClaim := { program := "ytcioapljmakidaagreat", sum := "739c9383b5164ec132240f10314c874453fa6be772e7793586cc880932ca709a", func := "escribano/escribanolaw03.PersonWider", spec := "personWider", unfollowed := true, recurses := true, plainKeys := false, apart := false }
def PersonWiderSaid : Prop := personWiderRow.holds Tryz.pinned (OpenSpec.ofChange personWiderSpec)

/-- ITS FALSE NEIGHBOUR: 'it returns false'. Refute it at one input. -/
def personWiderWrong : ChangeSpec := { name := "personWider", fn := fun _ => fun
  | [d1, d2] => { results := [.lit (.bool false)], args := [d1, d2] }
  | _ => none }
def PersonWiderWrongFalsely : Prop := personWiderRow.holds Tryz.pinned (OpenSpec.ofChange personWiderWrong)

/- THE SECOND FORM. 'bulk': how many values and letters a reading holds, each counted each time it is reached (what is shared counts as often as it is met; a slice's spare places count too). A statement '..UptoSaid' is the law's where the arguments, and the package variables that the reading takes, are together of bulk at most 1048576: NARROWER than '..Said'. Prove '..Said' where nothing that the law and all that it calls make is longer than what came in: it says more and counts as full. Else prove '..UptoSaid'. A law counts once. -/
mutual
def uptoBulk {H : Type} : DataW H → Nat
  | .lit (.string bytes) => bytes.length + 1
  | .lit _ => 1
  | .nil => 1
  | .ptr d => uptoBulk d + 1
  | .slice elems spare => uptoBulkAll elems + uptoBulkAll spare + 1
  | .agg parts => uptoBulkAll parts + 1
  | .iface _ d => uptoBulk d + 1
  | .map entries => uptoBulkEntries entries + 1
  | .held _ => 1
def uptoBulkAll {H : Type} : List (DataW H) → Nat
  | [] => 0
  | d :: r => uptoBulk d + uptoBulkAll r
def uptoBulkEntries {H : Type} : List (Lit × DataW H) → Nat
  | [] => 0
  | x :: r => uptoBulkEntry x + uptoBulkEntries r
def uptoBulkEntry {H : Type} : Lit × DataW H → Nat
  | (.string bytes, d) => bytes.length + uptoBulk d + 1
  | (_, d) => uptoBulk d + 1
 end
def uptoSmall : (H : Type) → List (DataW H) → Bool := fun _ ds => decide (uptoBulkAll ds ≤ 1048576)
def OpenSpec.upto (s : _root_.Go.ChangeSpec) : _root_.Go.OpenSpec := { _root_.Go.OpenSpec.ofChange s with cond := some uptoSmall }

/-- 'escribanolaw03.PersonFirsts', WHERE WHAT IT READS IS OF BULK AT MOST 1048576: true; the input reads as it did. -/
def personFirstsUptoRow : OpenClaim := { program := "ytcioapljmakidaagreat", sum := "739c9383b5164ec132240f10314c874453fa6be772e7793586cc880932ca709a", func := "escribano/escribanolaw03.PersonFirsts", spec := "personFirsts", unfollowed := true, recurses := true, plainKeys := false, apart := false, narrowed := true }
def PersonFirstsUptoSaid : Prop := personFirstsUptoRow.holds Tryz.pinned (OpenSpec.upto personFirstsSpec)

/-- 'escribanolaw03.PersonBorns', WHERE WHAT IT READS IS OF BULK AT MOST 1048576: true; the input reads as it did. -/
def personBornsUptoRow : OpenClaim := { program := "ytcioapljmakidaagreat", sum := "739c9383b5164ec132240f10314c874453fa6be772e7793586cc880932ca709a", func := "escribano/escribanolaw03.PersonBorns", spec := "personBorns", unfollowed := true, recurses := true, plainKeys := false, apart := false, narrowed := true }
def PersonBornsUptoSaid : Prop := personBornsUptoRow.holds Tryz.pinned (OpenSpec.upto personBornsSpec)

/-- 'escribanolaw03.PersonWhys', WHERE WHAT IT READS IS OF BULK AT MOST 1048576: true; the input reads as it did. -/
def personWhysUptoRow : OpenClaim := { program := "ytcioapljmakidaagreat", sum := "739c9383b5164ec132240f10314c874453fa6be772e7793586cc880932ca709a", func := "escribano/escribanolaw03.PersonWhys", spec := "personWhys", unfollowed := true, recurses := true, plainKeys := false, apart := false, narrowed := true }
def PersonWhysUptoSaid : Prop := personWhysUptoRow.holds Tryz.pinned (OpenSpec.upto personWhysSpec)

/-- 'escribanolaw03.PersonWrongs', WHERE WHAT IT READS IS OF BULK AT MOST 1048576: true; the input reads as it did. -/
def personWrongsUptoRow : OpenClaim := { program := "ytcioapljmakidaagreat", sum := "739c9383b5164ec132240f10314c874453fa6be772e7793586cc880932ca709a", func := "escribano/escribanolaw03.PersonWrongs", spec := "personWrongs", unfollowed := true, recurses := true, plainKeys := false, apart := false, narrowed := true }
def PersonWrongsUptoSaid : Prop := personWrongsUptoRow.holds Tryz.pinned (OpenSpec.upto personWrongsSpec)

/-- 'escribanolaw03.PersonTrue', WHERE WHAT IT READS IS OF BULK AT MOST 1048576: true; the input reads as it did. -/
def personTrueUptoRow : OpenClaim := { program := "ytcioapljmakidaagreat", sum := "739c9383b5164ec132240f10314c874453fa6be772e7793586cc880932ca709a", func := "escribano/escribanolaw03.PersonTrue", spec := "personTrue", unfollowed := true, recurses := true, plainKeys := false, apart := false, narrowed := true }
def PersonTrueUptoSaid : Prop := personTrueUptoRow.holds Tryz.pinned (OpenSpec.upto personTrueSpec)

/-- 'escribanolaw03.PersonJoined', WHERE WHAT IT READS IS OF BULK AT MOST 1048576: true; the input reads as it did. -/
def personJoinedUptoRow : OpenClaim := { program := "ytcioapljmakidaagreat", sum := "739c9383b5164ec132240f10314c874453fa6be772e7793586cc880932ca709a", func := "escribano/escribanolaw03.PersonJoined", spec := "personJoined", unfollowed := true, recurses := true, plainKeys := false, apart := false, narrowed := true }
def PersonJoinedUptoSaid : Prop := personJoinedUptoRow.holds Tryz.pinned (OpenSpec.upto personJoinedSpec)

/-- 'escribanolaw03.PersonApart', WHERE WHAT IT READS IS OF BULK AT MOST 1048576: true; the input reads as it did. -/
def personApartUptoRow : OpenClaim := { program := "ytcioapljmakidaagreat", sum := "739c9383b5164ec132240f10314c874453fa6be772e7793586cc880932ca709a", func := "escribano/escribanolaw03.PersonApart", spec := "personApart", unfollowed := true, recurses := true, plainKeys := false, apart := false, narrowed := true }
def PersonApartUptoSaid : Prop := personApartUptoRow.holds Tryz.pinned (OpenSpec.upto personApartSpec)

/-- 'escribanolaw03.PersonFewest', WHERE WHAT IT READS IS OF BULK AT MOST 1048576: true; the input reads as it did. -/
def personFewestUptoRow : OpenClaim := { program := "ytcioapljmakidaagreat", sum := "739c9383b5164ec132240f10314c874453fa6be772e7793586cc880932ca709a", func := "escribano/escribanolaw03.PersonFewest", spec := "personFewest", unfollowed := true, recurses := true, plainKeys := false, apart := false, narrowed := true }
def PersonFewestUptoSaid : Prop := personFewestUptoRow.holds Tryz.pinned (OpenSpec.upto personFewestSpec)

/-- 'escribanolaw03.PersonWho', WHERE WHAT IT READS IS OF BULK AT MOST 1048576: true; the input reads as it did. -/
def personWhoUptoRow : OpenClaim := { program := "ytcioapljmakidaagreat", sum := "739c9383b5164ec132240f10314c874453fa6be772e7793586cc880932ca709a", func := "escribano/escribanolaw03.PersonWho", spec := "personWho", unfollowed := true, recurses := true, plainKeys := false, apart := false, narrowed := true }
def PersonWhoUptoSaid : Prop := personWhoUptoRow.holds Tryz.pinned (OpenSpec.upto personWhoSpec)

/-- 'escribanolaw03.PersonSurely', WHERE WHAT IT READS IS OF BULK AT MOST 1048576: true; the input reads as it did. -/
def personSurelyUptoRow : OpenClaim := { program := "ytcioapljmakidaagreat", sum := "739c9383b5164ec132240f10314c874453fa6be772e7793586cc880932ca709a", func := "escribano/escribanolaw03.PersonSurely", spec := "personSurely", unfollowed := true, recurses := true, plainKeys := false, apart := false, narrowed := true }
def PersonSurelyUptoSaid : Prop := personSurelyUptoRow.holds Tryz.pinned (OpenSpec.upto personSurelySpec)

/-- 'escribanolaw03.PersonOlder', WHERE WHAT IT READS IS OF BULK AT MOST 1048576: true; the input reads as it did. -/
def personOlderUptoRow : OpenClaim := { program := "ytcioapljmakidaagreat", sum := "739c9383b5164ec132240f10314c874453fa6be772e7793586cc880932ca709a", func := "escribano/escribanolaw03.PersonOlder", spec := "personOlder", unfollowed := true, recurses := true, plainKeys := false, apart := false, narrowed := true }
def PersonOlderUptoSaid : Prop := personOlderUptoRow.holds Tryz.pinned (OpenSpec.upto personOlderSpec)

/-- 'escribanolaw03.PersonWider', WHERE WHAT IT READS IS OF BULK AT MOST 1048576: true; the input reads as it did. -/
def personWiderUptoRow : OpenClaim := { program := "ytcioapljmakidaagreat", sum := "739c9383b5164ec132240f10314c874453fa6be772e7793586cc880932ca709a", func := "escribano/escribanolaw03.PersonWider", spec := "personWider", unfollowed := true, recurses := true, plainKeys := false, apart := false, narrowed := true }
def PersonWiderUptoSaid : Prop := personWiderUptoRow.holds Tryz.pinned (OpenSpec.upto personWiderSpec)

end Rows
end Go.Proofs.YtcioapljmakidaaGreat
