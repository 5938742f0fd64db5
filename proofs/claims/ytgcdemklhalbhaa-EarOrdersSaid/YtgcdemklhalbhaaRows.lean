/-
  No cell of these rows narrows 'for every input' (looked for: loops, veiled, ifaces, maps, wideKeys, modest, calm, conditions, laid).
  DERIVED. THE GIVEN ROWS OF THIS SEAT. 14 by the template 'for every input the law returns true; each argument reads behind the call as it read before'; 0 by the template 'total and deterministic' (their statements: YtgcdemklhalbhaaTotals.lean).
  GIVEN WITH THE SEED: the statements are not yours to turn. If you find one false, say at which input.
  Laid BY PROGRAM, IN A SANDBOX (cutbox-rows.mjs): the forced cells as the released guide's own fill.sh prints them over the translation 3fa103067949d43f… (all of the seat's roots in one cut). By AI agents, Wed Nov 11 2026. No macro, syntax, notation, axiom, sorry.
-/
import Derived.Test.YtgcdemklhalbhaaChecked
import GoSem.Claim
import GoSem.ClaimJoined
import GoSem.ClaimMapViews
import Derived.JoinedTies
import Derived.KernelRfl
namespace Go.Proofs.Ytgcdemklhalbhaa
/- THE CELL 'sum', in the pinned program and in every row, IS THE sha256 OF THE DUMP (.gsa) THAT YtgcdemklhalbhaaProg.lean LOADS. Nothing in Lean hashes anything: it is a label: what it is worth is what the hold of that sum in a sandbox is worth. -/
noncomputable def Try.pinned : Pinned := { name := "ytgcdemklhalbhaa", sum := "3fa103067949d43f9241ed6cf7acd23137ebd8ebee19e74e83714c7a5779beb5", checked := Try.checked }
namespace Rows
def none {H : Type} : Left H := { results := [], args := [] }

/-- 'escribanolaw01.EarChecks': WHATEVER THE INPUT: true; the input reads as it did. -/
def earChecksSpec : ChangeSpec := { name := "earChecks", fn := fun _ => fun
  | [d1, d2] => { results := [.lit (.bool true)], args := [d1, d2] }
  | _ => none }
def earChecksRow : OpenClaim := { program := "ytgcdemklhalbhaa", sum := "3fa103067949d43f9241ed6cf7acd23137ebd8ebee19e74e83714c7a5779beb5", func := "escribano/escribanolaw01.EarChecks", spec := "earChecks", unfollowed := true, recurses := true, plainKeys := false, apart := false }
def EarChecksSaid : Prop := earChecksRow.holds Try.pinned (OpenSpec.ofChange earChecksSpec)

/-- ITS FALSE NEIGHBOUR: 'it returns false'. Refute it at one input. -/
def earChecksWrong : ChangeSpec := { name := "earChecks", fn := fun _ => fun
  | [d1, d2] => { results := [.lit (.bool false)], args := [d1, d2] }
  | _ => none }
def EarChecksWrongFalsely : Prop := earChecksRow.holds Try.pinned (OpenSpec.ofChange earChecksWrong)

/-- 'escribanolaw01.EarReads': WHATEVER THE INPUT: true; the input reads as it did. -/
def earReadsSpec : ChangeSpec := { name := "earReads", fn := fun _ => fun
  | [d1, d2, d3] => { results := [.lit (.bool true)], args := [d1, d2, d3] }
  | _ => none }
def earReadsRow : OpenClaim := { program := "ytgcdemklhalbhaa", sum := "3fa103067949d43f9241ed6cf7acd23137ebd8ebee19e74e83714c7a5779beb5", func := "escribano/escribanolaw01.EarReads", spec := "earReads", unfollowed := true, recurses := true, plainKeys := false, apart := false }
def EarReadsSaid : Prop := earReadsRow.holds Try.pinned (OpenSpec.ofChange earReadsSpec)

/-- ITS FALSE NEIGHBOUR: 'it returns false'. Refute it at one input. -/
def earReadsWrong : ChangeSpec := { name := "earReads", fn := fun _ => fun
  | [d1, d2, d3] => { results := [.lit (.bool false)], args := [d1, d2, d3] }
  | _ => none }
def EarReadsWrongFalsely : Prop := earReadsRow.holds Try.pinned (OpenSpec.ofChange earReadsWrong)

/-- 'escribanolaw01.EarAlikes': WHATEVER THE INPUT: true; the input reads as it did. -/
def earAlikesSpec : ChangeSpec := { name := "earAlikes", fn := fun _ => fun
  | [d1, d2] => { results := [.lit (.bool true)], args := [d1, d2] }
  | _ => none }
def earAlikesRow : OpenClaim := { program := "ytgcdemklhalbhaa", sum := "3fa103067949d43f9241ed6cf7acd23137ebd8ebee19e74e83714c7a5779beb5", func := "escribano/escribanolaw01.EarAlikes", spec := "earAlikes", unfollowed := true, recurses := true, plainKeys := false, apart := false }
def EarAlikesSaid : Prop := earAlikesRow.holds Try.pinned (OpenSpec.ofChange earAlikesSpec)

/-- ITS FALSE NEIGHBOUR: 'it returns false'. Refute it at one input. -/
def earAlikesWrong : ChangeSpec := { name := "earAlikes", fn := fun _ => fun
  | [d1, d2] => { results := [.lit (.bool false)], args := [d1, d2] }
  | _ => none }
def EarAlikesWrongFalsely : Prop := earAlikesRow.holds Try.pinned (OpenSpec.ofChange earAlikesWrong)

/-- 'escribanolaw01.EarCommons': WHATEVER THE INPUT: true; the input reads as it did. -/
def earCommonsSpec : ChangeSpec := { name := "earCommons", fn := fun _ => fun
  | [d1, d2] => { results := [.lit (.bool true)], args := [d1, d2] }
  | _ => none }
def earCommonsRow : OpenClaim := { program := "ytgcdemklhalbhaa", sum := "3fa103067949d43f9241ed6cf7acd23137ebd8ebee19e74e83714c7a5779beb5", func := "escribano/escribanolaw01.EarCommons", spec := "earCommons", unfollowed := true, recurses := true, plainKeys := false, apart := false }
def EarCommonsSaid : Prop := earCommonsRow.holds Try.pinned (OpenSpec.ofChange earCommonsSpec)

/-- ITS FALSE NEIGHBOUR: 'it returns false'. Refute it at one input. -/
def earCommonsWrong : ChangeSpec := { name := "earCommons", fn := fun _ => fun
  | [d1, d2] => { results := [.lit (.bool false)], args := [d1, d2] }
  | _ => none }
def EarCommonsWrongFalsely : Prop := earCommonsRow.holds Try.pinned (OpenSpec.ofChange earCommonsWrong)

/-- 'escribanolaw01.EarSpells': WHATEVER THE INPUT: true; the input reads as it did. -/
def earSpellsSpec : ChangeSpec := { name := "earSpells", fn := fun _ => fun
  | [d1, d2, d3] => { results := [.lit (.bool true)], args := [d1, d2, d3] }
  | _ => none }
def earSpellsRow : OpenClaim := { program := "ytgcdemklhalbhaa", sum := "3fa103067949d43f9241ed6cf7acd23137ebd8ebee19e74e83714c7a5779beb5", func := "escribano/escribanolaw01.EarSpells", spec := "earSpells", unfollowed := true, recurses := true, plainKeys := false, apart := false }
def EarSpellsSaid : Prop := earSpellsRow.holds Try.pinned (OpenSpec.ofChange earSpellsSpec)

/-- ITS FALSE NEIGHBOUR: 'it returns false'. Refute it at one input. -/
def earSpellsWrong : ChangeSpec := { name := "earSpells", fn := fun _ => fun
  | [d1, d2, d3] => { results := [.lit (.bool false)], args := [d1, d2, d3] }
  | _ => none }
def EarSpellsWrongFalsely : Prop := earSpellsRow.holds Try.pinned (OpenSpec.ofChange earSpellsWrong)

/-- 'escribanolaw01.EarKnown': WHATEVER THE INPUT: true; the input reads as it did. -/
def earKnownSpec : ChangeSpec := { name := "earKnown", fn := fun _ => fun
  | [] => { results := [.lit (.bool true)], args := [] }
  | _ => none }
def earKnownRow : OpenClaim := { program := "ytgcdemklhalbhaa", sum := "3fa103067949d43f9241ed6cf7acd23137ebd8ebee19e74e83714c7a5779beb5", func := "escribano/escribanolaw01.EarKnown", spec := "earKnown", unfollowed := true, recurses := true, plainKeys := false, apart := false }
def EarKnownSaid : Prop := earKnownRow.holds Try.pinned (OpenSpec.ofChange earKnownSpec)

/-- ITS FALSE NEIGHBOUR: 'it returns false'. Refute it at one input. -/
def earKnownWrong : ChangeSpec := { name := "earKnown", fn := fun _ => fun
  | [] => { results := [.lit (.bool false)], args := [] }
  | _ => none }
def EarKnownWrongFalsely : Prop := earKnownRow.holds Try.pinned (OpenSpec.ofChange earKnownWrong)

/-- 'escribanolaw01.EarTrue': WHATEVER THE INPUT: true; the input reads as it did. -/
def earTrueSpec : ChangeSpec := { name := "earTrue", fn := fun _ => fun
  | [d1, d2, d3] => { results := [.lit (.bool true)], args := [d1, d2, d3] }
  | _ => none }
def earTrueRow : OpenClaim := { program := "ytgcdemklhalbhaa", sum := "3fa103067949d43f9241ed6cf7acd23137ebd8ebee19e74e83714c7a5779beb5", func := "escribano/escribanolaw01.EarTrue", spec := "earTrue", unfollowed := true, recurses := true, plainKeys := false, apart := false }
def EarTrueSaid : Prop := earTrueRow.holds Try.pinned (OpenSpec.ofChange earTrueSpec)

/-- ITS FALSE NEIGHBOUR: 'it returns false'. Refute it at one input. -/
def earTrueWrong : ChangeSpec := { name := "earTrue", fn := fun _ => fun
  | [d1, d2, d3] => { results := [.lit (.bool false)], args := [d1, d2, d3] }
  | _ => none }
def EarTrueWrongFalsely : Prop := earTrueRow.holds Try.pinned (OpenSpec.ofChange earTrueWrong)

/-- 'escribanolaw01.EarJoined': WHATEVER THE INPUT: true; the input reads as it did. -/
def earJoinedSpec : ChangeSpec := { name := "earJoined", fn := fun _ => fun
  | [d1, d2] => { results := [.lit (.bool true)], args := [d1, d2] }
  | _ => none }
def earJoinedRow : OpenClaim := { program := "ytgcdemklhalbhaa", sum := "3fa103067949d43f9241ed6cf7acd23137ebd8ebee19e74e83714c7a5779beb5", func := "escribano/escribanolaw01.EarJoined", spec := "earJoined", unfollowed := true, recurses := true, plainKeys := false, apart := false }
def EarJoinedSaid : Prop := earJoinedRow.holds Try.pinned (OpenSpec.ofChange earJoinedSpec)

/-- ITS FALSE NEIGHBOUR: 'it returns false'. Refute it at one input. -/
def earJoinedWrong : ChangeSpec := { name := "earJoined", fn := fun _ => fun
  | [d1, d2] => { results := [.lit (.bool false)], args := [d1, d2] }
  | _ => none }
def EarJoinedWrongFalsely : Prop := earJoinedRow.holds Try.pinned (OpenSpec.ofChange earJoinedWrong)

/-- 'escribanolaw01.EarFewest': WHATEVER THE INPUT: true; the input reads as it did. -/
def earFewestSpec : ChangeSpec := { name := "earFewest", fn := fun _ => fun
  | [d1, d2] => { results := [.lit (.bool true)], args := [d1, d2] }
  | _ => none }
def earFewestRow : OpenClaim := { program := "ytgcdemklhalbhaa", sum := "3fa103067949d43f9241ed6cf7acd23137ebd8ebee19e74e83714c7a5779beb5", func := "escribano/escribanolaw01.EarFewest", spec := "earFewest", unfollowed := true, recurses := true, plainKeys := false, apart := false }
def EarFewestSaid : Prop := earFewestRow.holds Try.pinned (OpenSpec.ofChange earFewestSpec)

/-- ITS FALSE NEIGHBOUR: 'it returns false'. Refute it at one input. -/
def earFewestWrong : ChangeSpec := { name := "earFewest", fn := fun _ => fun
  | [d1, d2] => { results := [.lit (.bool false)], args := [d1, d2] }
  | _ => none }
def EarFewestWrongFalsely : Prop := earFewestRow.holds Try.pinned (OpenSpec.ofChange earFewestWrong)

/-- 'escribanolaw01.EarSpelt': WHATEVER THE INPUT: true; the input reads as it did. -/
def earSpeltSpec : ChangeSpec := { name := "earSpelt", fn := fun _ => fun
  | [d] => { results := [.lit (.bool true)], args := [d] }
  | _ => none }
def earSpeltRow : OpenClaim := { program := "ytgcdemklhalbhaa", sum := "3fa103067949d43f9241ed6cf7acd23137ebd8ebee19e74e83714c7a5779beb5", func := "escribano/escribanolaw01.EarSpelt", spec := "earSpelt", unfollowed := true, recurses := true, plainKeys := false, apart := false }
def EarSpeltSaid : Prop := earSpeltRow.holds Try.pinned (OpenSpec.ofChange earSpeltSpec)

/-- ITS FALSE NEIGHBOUR: 'it returns false'. Refute it at one input. -/
def earSpeltWrong : ChangeSpec := { name := "earSpelt", fn := fun _ => fun
  | [d] => { results := [.lit (.bool false)], args := [d] }
  | _ => none }
def EarSpeltWrongFalsely : Prop := earSpeltRow.holds Try.pinned (OpenSpec.ofChange earSpeltWrong)

/-- 'escribanolaw01.EarMore': WHATEVER THE INPUT: true; the input reads as it did. -/
def earMoreSpec : ChangeSpec := { name := "earMore", fn := fun _ => fun
  | [d1, d2, d3] => { results := [.lit (.bool true)], args := [d1, d2, d3] }
  | _ => none }
def earMoreRow : OpenClaim := { program := "ytgcdemklhalbhaa", sum := "3fa103067949d43f9241ed6cf7acd23137ebd8ebee19e74e83714c7a5779beb5", func := "escribano/escribanolaw01.EarMore", spec := "earMore", unfollowed := true, recurses := true, plainKeys := false, apart := false }
def EarMoreSaid : Prop := earMoreRow.holds Try.pinned (OpenSpec.ofChange earMoreSpec)

/-- ITS FALSE NEIGHBOUR: 'it returns false'. Refute it at one input. -/
def earMoreWrong : ChangeSpec := { name := "earMore", fn := fun _ => fun
  | [d1, d2, d3] => { results := [.lit (.bool false)], args := [d1, d2, d3] }
  | _ => none }
def EarMoreWrongFalsely : Prop := earMoreRow.holds Try.pinned (OpenSpec.ofChange earMoreWrong)

/-- 'escribanolaw01.EarCounted': WHATEVER THE INPUT: true; the input reads as it did. -/
def earCountedSpec : ChangeSpec := { name := "earCounted", fn := fun _ => fun
  | [d1, d2] => { results := [.lit (.bool true)], args := [d1, d2] }
  | _ => none }
def earCountedRow : OpenClaim := { program := "ytgcdemklhalbhaa", sum := "3fa103067949d43f9241ed6cf7acd23137ebd8ebee19e74e83714c7a5779beb5", func := "escribano/escribanolaw01.EarCounted", spec := "earCounted", unfollowed := true, recurses := true, plainKeys := false, apart := false }
def EarCountedSaid : Prop := earCountedRow.holds Try.pinned (OpenSpec.ofChange earCountedSpec)

/-- ITS FALSE NEIGHBOUR: 'it returns false'. Refute it at one input. -/
def earCountedWrong : ChangeSpec := { name := "earCounted", fn := fun _ => fun
  | [d1, d2] => { results := [.lit (.bool false)], args := [d1, d2] }
  | _ => none }
def EarCountedWrongFalsely : Prop := earCountedRow.holds Try.pinned (OpenSpec.ofChange earCountedWrong)

/-- 'escribanolaw01.EarCommon': WHATEVER THE INPUT: true; the input reads as it did. -/
def earCommonSpec : ChangeSpec := { name := "earCommon", fn := fun _ => fun
  | [d1, d2, d3] => { results := [.lit (.bool true)], args := [d1, d2, d3] }
  | _ => none }
def earCommonRow : OpenClaim := { program := "ytgcdemklhalbhaa", sum := "3fa103067949d43f9241ed6cf7acd23137ebd8ebee19e74e83714c7a5779beb5", func := "escribano/escribanolaw01.EarCommon", spec := "earCommon", unfollowed := true, recurses := true, plainKeys := false, apart := false }
def EarCommonSaid : Prop := earCommonRow.holds Try.pinned (OpenSpec.ofChange earCommonSpec)

/-- ITS FALSE NEIGHBOUR: 'it returns false'. Refute it at one input. -/
def earCommonWrong : ChangeSpec := { name := "earCommon", fn := fun _ => fun
  | [d1, d2, d3] => { results := [.lit (.bool false)], args := [d1, d2, d3] }
  | _ => none }
def EarCommonWrongFalsely : Prop := earCommonRow.holds Try.pinned (OpenSpec.ofChange earCommonWrong)

/-- 'escribanolaw01.EarOrders': WHATEVER THE INPUT: true; the input reads as it did. -/
def earOrdersSpec : ChangeSpec := { name := "earOrders", fn := fun _ => fun
  | [d1, d2, d3] => { results := [.lit (.bool true)], args := [d1, d2, d3] }
  | _ => none }
def earOrdersRow : OpenClaim := { program := "ytgcdemklhalbhaa", sum := "3fa103067949d43f9241ed6cf7acd23137ebd8ebee19e74e83714c7a5779beb5", func := "escribano/escribanolaw01.EarOrders", spec := "earOrders", unfollowed := true, recurses := true, plainKeys := false, apart := false }
def EarOrdersSaid : Prop := earOrdersRow.holds Try.pinned (OpenSpec.ofChange earOrdersSpec)

/-- ITS FALSE NEIGHBOUR: 'it returns false'. Refute it at one input. -/
def earOrdersWrong : ChangeSpec := { name := "earOrders", fn := fun _ => fun
  | [d1, d2, d3] => { results := [.lit (.bool false)], args := [d1, d2, d3] }
  | _ => none }
def EarOrdersWrongFalsely : Prop := earOrdersRow.holds Try.pinned (OpenSpec.ofChange earOrdersWrong)

/- THE SECOND FORM. 'bulk': how many values and letters a reading holds, each counted each time it is reached (what is shared counts as often as it is met; a slice's spare places count too). A statement '..UptoSaid' is the law's where the arguments, and the package variables that the reading takes, are together of bulk at most 1048576: NARROWER than '..Said'. Prove '..Said' where nothing that the law and all that it calls make is longer than what came in: it says more and counts as full. Else prove '..UptoSaid'. A law counts once. -/
mutual
def uptoBulk {H : Type} : DataW H → Nat
  | .lit (.string bytes) => bytes.length + 1
  | .lit _ => 1
  | .nil => 1
  | .ptr d => uptoBulk d + 1
  | .slice elems spare => uptoBulkAll elems + uptoBulkAll spare + 1
  | .agg parts => uptoBulkAll parts + 1
  | .iface _ d => uptoBulk d + 1
  | .map entries => uptoBulkEntries entries + 1
  | .held _ => 1
def uptoBulkAll {H : Type} : List (DataW H) → Nat
  | [] => 0
  | d :: r => uptoBulk d + uptoBulkAll r
def uptoBulkEntries {H : Type} : List (Lit × DataW H) → Nat
  | [] => 0
  | x :: r => uptoBulkEntry x + uptoBulkEntries r
def uptoBulkEntry {H : Type} : Lit × DataW H → Nat
  | (.string bytes, d) => bytes.length + uptoBulk d + 1
  | (_, d) => uptoBulk d + 1
 end
def uptoSmall : (H : Type) → List (DataW H) → Bool := fun _ ds => decide (uptoBulkAll ds ≤ 1048576)
def OpenSpec.upto (s : _root_.Go.ChangeSpec) : _root_.Go.OpenSpec := { _root_.Go.OpenSpec.ofChange s with cond := some uptoSmall }

/-- 'escribanolaw01.EarChecks', WHERE WHAT IT READS IS OF BULK AT MOST 1048576: true; the input reads as it did. -/
def earChecksUptoRow : OpenClaim := { program := "ytgcdemklhalbhaa", sum := "3fa103067949d43f9241ed6cf7acd23137ebd8ebee19e74e83714c7a5779beb5", func := "escribano/escribanolaw01.EarChecks", spec := "earChecks", unfollowed := true, recurses := true, plainKeys := false, apart := false, narrowed := true }
def EarChecksUptoSaid : Prop := earChecksUptoRow.holds Try.pinned (OpenSpec.upto earChecksSpec)

/-- 'escribanolaw01.EarReads', WHERE WHAT IT READS IS OF BULK AT MOST 1048576: true; the input reads as it did. -/
def earReadsUptoRow : OpenClaim := { program := "ytgcdemklhalbhaa", sum := "3fa103067949d43f9241ed6cf7acd23137ebd8ebee19e74e83714c7a5779beb5", func := "escribano/escribanolaw01.EarReads", spec := "earReads", unfollowed := true, recurses := true, plainKeys := false, apart := false, narrowed := true }
def EarReadsUptoSaid : Prop := earReadsUptoRow.holds Try.pinned (OpenSpec.upto earReadsSpec)

/-- 'escribanolaw01.EarAlikes', WHERE WHAT IT READS IS OF BULK AT MOST 1048576: true; the input reads as it did. -/
def earAlikesUptoRow : OpenClaim := { program := "ytgcdemklhalbhaa", sum := "3fa103067949d43f9241ed6cf7acd23137ebd8ebee19e74e83714c7a5779beb5", func := "escribano/escribanolaw01.EarAlikes", spec := "earAlikes", unfollowed := true, recurses := true, plainKeys := false, apart := false, narrowed := true }
def EarAlikesUptoSaid : Prop := earAlikesUptoRow.holds Try.pinned (OpenSpec.upto earAlikesSpec)

/-- 'escribanolaw01.EarCommons', WHERE WHAT IT READS IS OF BULK AT MOST 1048576: true; the input reads as it did. -/
def earCommonsUptoRow : OpenClaim := { program := "ytgcdemklhalbhaa", sum := "3fa103067949d43f9241ed6cf7acd23137ebd8ebee19e74e83714c7a5779beb5", func := "escribano/escribanolaw01.EarCommons", spec := "earCommons", unfollowed := true, recurses := true, plainKeys := false, apart := false, narrowed := true }
def EarCommonsUptoSaid : Prop := earCommonsUptoRow.holds Try.pinned (OpenSpec.upto earCommonsSpec)

/-- 'escribanolaw01.EarSpells', WHERE WHAT IT READS IS OF BULK AT MOST 1048576: true; the input reads as it did. -/
def earSpellsUptoRow : OpenClaim := { program := "ytgcdemklhalbhaa", sum := "3fa103067949d43f9241ed6cf7acd23137ebd8ebee19e74e83714c7a5779beb5", func := "escribano/escribanolaw01.EarSpells", spec := "earSpells", unfollowed := true, recurses := true, plainKeys := false, apart := false, narrowed := true }
def EarSpellsUptoSaid : Prop := earSpellsUptoRow.holds Try.pinned (OpenSpec.upto earSpellsSpec)

/-- 'escribanolaw01.EarKnown', WHERE WHAT IT READS IS OF BULK AT MOST 1048576: true; the input reads as it did. -/
def earKnownUptoRow : OpenClaim := { program := "ytgcdemklhalbhaa", sum := "3fa103067949d43f9241ed6cf7acd23137ebd8ebee19e74e83714c7a5779beb5", func := "escribano/escribanolaw01.EarKnown", spec := "earKnown", unfollowed := true, recurses := true, plainKeys := false, apart := false, narrowed := true }
def EarKnownUptoSaid : Prop := earKnownUptoRow.holds Try.pinned (OpenSpec.upto earKnownSpec)

/-- 'escribanolaw01.EarTrue', WHERE WHAT IT READS IS OF BULK AT MOST 1048576: true; the input reads as it did. -/
def earTrueUptoRow : OpenClaim := { program := "ytgcdemklhalbhaa", sum := "3fa103067949d43f9241ed6cf7acd23137ebd8ebee19e74e83714c7a5779beb5", func := "escribano/escribanolaw01.EarTrue", spec := "earTrue", unfollowed := true, recurses := true, plainKeys := false, apart := false, narrowed := true }
def EarTrueUptoSaid : Prop := earTrueUptoRow.holds Try.pinned (OpenSpec.upto earTrueSpec)

/-- 'escribanolaw01.EarJoined', WHERE WHAT IT READS IS OF BULK AT MOST 1048576: true; the input reads as it did. -/
def earJoinedUptoRow : OpenClaim := { program := "ytgcdemklhalbhaa", sum := "3fa103067949d43f9241ed6cf7acd23137ebd8ebee19e74e83714c7a5779beb5", func := "escribano/escribanolaw01.EarJoined", spec := "earJoined", unfollowed := true, recurses := true, plainKeys := false, apart := false, narrowed := true }
def EarJoinedUptoSaid : Prop := earJoinedUptoRow.holds Try.pinned (OpenSpec.upto earJoinedSpec)

/-- 'escribanolaw01.EarFewest', WHERE WHAT IT READS IS OF BULK AT MOST 1048576: true; the input reads as it did. -/
def earFewestUptoRow : OpenClaim := { program := "ytgcdemklhalbhaa", sum := "3fa103067949d43f9241ed6cf7acd23137ebd8ebee19e74e83714c7a5779beb5", func := "escribano/escribanolaw01.EarFewest", spec := "earFewest", unfollowed := true, recurses := true, plainKeys := false, apart := false, narrowed := true }
def EarFewestUptoSaid : Prop := earFewestUptoRow.holds Try.pinned (OpenSpec.upto earFewestSpec)

/-- 'escribanolaw01.EarSpelt', WHERE WHAT IT READS IS OF BULK AT MOST 1048576: true; the input reads as it did. -/
def earSpeltUptoRow : OpenClaim := { program := "ytgcdemklhalbhaa", sum := "3fa103067949d43f9241ed6cf7acd23137ebd8ebee19e74e83714c7a5779beb5", func := "escribano/escribanolaw01.EarSpelt", spec := "earSpelt", unfollowed := true, recurses := true, plainKeys := false, apart := false, narrowed := true }
def EarSpeltUptoSaid : Prop := earSpeltUptoRow.holds Try.pinned (OpenSpec.upto earSpeltSpec)

/-- 'escribanolaw01.EarMore', WHERE WHAT IT READS IS OF BULK AT MOST 1048576: true; the input reads as it did. -/
def earMoreUptoRow : OpenClaim := { program := "ytgcdemklhalbhaa", sum := "3fa103067949d43f9241ed6cf7acd23137ebd8ebee19e74e83714c7a5779beb5", func := "escribano/escribanolaw01.EarMore", spec := "earMore", unfollowed := true, recurses := true, plainKeys := false, apart := false, narrowed := true }
def EarMoreUptoSaid : Prop := earMoreUptoRow.holds Try.pinned (OpenSpec.upto earMoreSpec)

/-- 'escribanolaw01.EarCounted', WHERE WHAT IT READS IS OF BULK AT MOST 1048576: true; the input reads as it did. -/
def earCountedUptoRow : OpenClaim := { program := "ytgcdemklhalbhaa", sum := "3fa103067949d43f9241ed6cf7acd23137ebd8ebee19e74e83714c7a5779beb5", func := "escribano/escribanolaw01.EarCounted", spec := "earCounted", unfollowed := true, recurses := true, plainKeys := false, apart := false, narrowed := true }
def EarCountedUptoSaid : Prop := earCountedUptoRow.holds Try.pinned (OpenSpec.upto earCountedSpec)

/-- 'escribanolaw01.EarCommon', WHERE WHAT IT READS IS OF BULK AT MOST 1048576: true; the input reads as it did. -/
def earCommonUptoRow : OpenClaim := { program := "ytgcdemklhalbhaa", sum := "3fa103067949d43f9241ed6cf7acd23137ebd8ebee19e74e83714c7a5779beb5", func := "escribano/escribanolaw01.EarCommon", spec := "earCommon", unfollowed := true, recurses := true, plainKeys := false, apart := false, narrowed := true }
def EarCommonUptoSaid : Prop := earCommonUptoRow.holds Try.pinned (OpenSpec.upto earCommonSpec)

/-- 'escribanolaw01.EarOrders', WHERE WHAT IT READS IS OF BULK AT MOST 1048576: true; the input reads as it did. -/
def earOrdersUptoRow : OpenClaim := { program := "ytgcdemklhalbhaa", sum := "3fa103067949d43f9241ed6cf7acd23137ebd8ebee19e74e83714c7a5779beb5", func := "escribano/escribanolaw01.EarOrders", spec := "earOrders", unfollowed := true, recurses := true, plainKeys := false, apart := false, narrowed := true }
def EarOrdersUptoSaid : Prop := earOrdersUptoRow.holds Try.pinned (OpenSpec.upto earOrdersSpec)

end Rows
end Go.Proofs.Ytgcdemklhalbhaa
