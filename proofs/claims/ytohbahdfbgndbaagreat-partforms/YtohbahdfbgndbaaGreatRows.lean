/-
  No cell of these rows narrows 'for every input' (looked for: loops, veiled, ifaces, maps, wideKeys, modest, calm, conditions, laid).
  DERIVED. THE GIVEN ROWS OF THIS SEAT. 9 by the template 'for every input the law returns true; each argument reads behind the call as it read before'; 0 by the template 'total and deterministic' (their statements: YtohbahdfbgndbaaGreatTotals.lean).
  GIVEN WITH THE SEED: the statements are not yours to turn. If you find one false, say at which input.
  Laid BY PROGRAM, IN A SANDBOX (cutbox-rows.mjs): the forced cells as the released guide's own fill.sh prints them over the translation 6e2c07d174868ab0… (all of the seat's roots in one cut). By AI agents, Wed Nov 11 2026. No macro, syntax, notation, axiom, sorry.
-/
import Derived.Test.YtohbahdfbgndbaaGreatChecked
import GoSem.Claim
import GoSem.ClaimJoined
import GoSem.ClaimMapViews
import Derived.JoinedTies
import Derived.KernelRfl
namespace Go.Proofs.YtohbahdfbgndbaaGreat
/- THE CELL 'sum', in the pinned program and in every row, IS THE sha256 OF THE DUMP (.gsa) THAT YtohbahdfbgndbaaGreatProg.lean LOADS. Nothing in Lean hashes anything: it is a label: what it is worth is what the hold of that sum in a sandbox is worth. -/
noncomputable def Tryz.pinned : Pinned := { name := "ytohbahdfbgndbaagreat", sum := "6e2c07d174868ab0355f208ba1f78a915a395645c2c23019f886257fe4542035", checked := Tryz.checked }
namespace Rows
def none {H : Type} : Left H := { results := [], args := [] }

/-- 'furlonglaw19.PartAsked': WHATEVER THE INPUT: true; the input reads as it did. -/
def partAskedSpec : ChangeSpec := { name := "partAsked", fn := fun _ => fun
  | [d1, d2] => { results := [.lit (.bool true)], args := [d1, d2] }
  | _ => none }
def partAskedRow : OpenClaim := { program := "ytohbahdfbgndbaagreat", sum := "6e2c07d174868ab0355f208ba1f78a915a395645c2c23019f886257fe4542035", func := "furlong/furlonglaw19.PartAsked", spec := "partAsked", inPlace := ["sync/atomic.AddInt64", "sync/atomic.StoreInt64", "sync/atomic.LoadInt64"], unfollowed := true, recurses := true, plainKeys := false, apart := false }
def PartAskedSaid : Prop := partAskedRow.holds Tryz.pinned (OpenSpec.ofChange partAskedSpec)

/-- ITS FALSE NEIGHBOUR: 'it returns false'. Refute it at one input. -/
def partAskedWrong : ChangeSpec := { name := "partAsked", fn := fun _ => fun
  | [d1, d2] => { results := [.lit (.bool false)], args := [d1, d2] }
  | _ => none }
def PartAskedWrongFalsely : Prop := partAskedRow.holds Tryz.pinned (OpenSpec.ofChange partAskedWrong)

/-- 'furlonglaw19.PartBase': WHATEVER THE INPUT: true; the input reads as it did. -/
def partBaseSpec : ChangeSpec := { name := "partBase", fn := fun _ => fun
  | [d1, d2] => { results := [.lit (.bool true)], args := [d1, d2] }
  | _ => none }
def partBaseRow : OpenClaim := { program := "ytohbahdfbgndbaagreat", sum := "6e2c07d174868ab0355f208ba1f78a915a395645c2c23019f886257fe4542035", func := "furlong/furlonglaw19.PartBase", spec := "partBase", inPlace := ["sync/atomic.AddInt64", "sync/atomic.StoreInt64", "sync/atomic.LoadInt64"], unfollowed := true, recurses := true, plainKeys := false, apart := false }
def PartBaseSaid : Prop := partBaseRow.holds Tryz.pinned (OpenSpec.ofChange partBaseSpec)

/-- ITS FALSE NEIGHBOUR: 'it returns false'. Refute it at one input. -/
def partBaseWrong : ChangeSpec := { name := "partBase", fn := fun _ => fun
  | [d1, d2] => { results := [.lit (.bool false)], args := [d1, d2] }
  | _ => none }
def PartBaseWrongFalsely : Prop := partBaseRow.holds Tryz.pinned (OpenSpec.ofChange partBaseWrong)

/-- 'furlonglaw19.PartClash': WHATEVER THE INPUT: true; the input reads as it did. -/
def partClashSpec : ChangeSpec := { name := "partClash", fn := fun _ => fun
  | [d1, d2] => { results := [.lit (.bool true)], args := [d1, d2] }
  | _ => none }
def partClashRow : OpenClaim := { program := "ytohbahdfbgndbaagreat", sum := "6e2c07d174868ab0355f208ba1f78a915a395645c2c23019f886257fe4542035", func := "furlong/furlonglaw19.PartClash", spec := "partClash", inPlace := ["sync/atomic.AddInt64", "sync/atomic.StoreInt64", "sync/atomic.LoadInt64"], unfollowed := true, recurses := true, plainKeys := false, apart := false }
def PartClashSaid : Prop := partClashRow.holds Tryz.pinned (OpenSpec.ofChange partClashSpec)

/-- ITS FALSE NEIGHBOUR: 'it returns false'. Refute it at one input. -/
def partClashWrong : ChangeSpec := { name := "partClash", fn := fun _ => fun
  | [d1, d2] => { results := [.lit (.bool false)], args := [d1, d2] }
  | _ => none }
def PartClashWrongFalsely : Prop := partClashRow.holds Tryz.pinned (OpenSpec.ofChange partClashWrong)

/-- 'furlonglaw19.PartRoom': WHATEVER THE INPUT: true; the input reads as it did. -/
def partRoomSpec : ChangeSpec := { name := "partRoom", fn := fun _ => fun
  | [d1, d2] => { results := [.lit (.bool true)], args := [d1, d2] }
  | _ => none }
def partRoomRow : OpenClaim := { program := "ytohbahdfbgndbaagreat", sum := "6e2c07d174868ab0355f208ba1f78a915a395645c2c23019f886257fe4542035", func := "furlong/furlonglaw19.PartRoom", spec := "partRoom", inPlace := ["sync/atomic.AddInt64", "sync/atomic.StoreInt64", "sync/atomic.LoadInt64"], unfollowed := true, recurses := true, plainKeys := false, apart := false }
def PartRoomSaid : Prop := partRoomRow.holds Tryz.pinned (OpenSpec.ofChange partRoomSpec)

/-- ITS FALSE NEIGHBOUR: 'it returns false'. Refute it at one input. -/
def partRoomWrong : ChangeSpec := { name := "partRoom", fn := fun _ => fun
  | [d1, d2] => { results := [.lit (.bool false)], args := [d1, d2] }
  | _ => none }
def PartRoomWrongFalsely : Prop := partRoomRow.holds Tryz.pinned (OpenSpec.ofChange partRoomWrong)

/-- 'furlonglaw19.PartTicks': WHATEVER THE INPUT: true; the input reads as it did. -/
def partTicksSpec : ChangeSpec := { name := "partTicks", fn := fun _ => fun
  | [d1, d2] => { results := [.lit (.bool true)], args := [d1, d2] }
  | _ => none }
def partTicksRow : OpenClaim := { program := "ytohbahdfbgndbaagreat", sum := "6e2c07d174868ab0355f208ba1f78a915a395645c2c23019f886257fe4542035", func := "furlong/furlonglaw19.PartTicks", spec := "partTicks", inPlace := ["sync/atomic.AddInt64", "sync/atomic.StoreInt64", "sync/atomic.LoadInt64"], unfollowed := true, recurses := true, plainKeys := false, apart := false }
def PartTicksSaid : Prop := partTicksRow.holds Tryz.pinned (OpenSpec.ofChange partTicksSpec)

/-- ITS FALSE NEIGHBOUR: 'it returns false'. Refute it at one input. -/
def partTicksWrong : ChangeSpec := { name := "partTicks", fn := fun _ => fun
  | [d1, d2] => { results := [.lit (.bool false)], args := [d1, d2] }
  | _ => none }
def PartTicksWrongFalsely : Prop := partTicksRow.holds Tryz.pinned (OpenSpec.ofChange partTicksWrong)

/-- 'furlonglaw19.PartLogs': WHATEVER THE INPUT: true; the input reads as it did. -/
def partLogsSpec : ChangeSpec := { name := "partLogs", fn := fun _ => fun
  | [d1, d2] => { results := [.lit (.bool true)], args := [d1, d2] }
  | _ => none }
def partLogsRow : OpenClaim := { program := "ytohbahdfbgndbaagreat", sum := "6e2c07d174868ab0355f208ba1f78a915a395645c2c23019f886257fe4542035", func := "furlong/furlonglaw19.PartLogs", spec := "partLogs", inPlace := ["sync/atomic.AddInt64", "sync/atomic.StoreInt64", "sync/atomic.LoadInt64"], unfollowed := true, recurses := true, plainKeys := false, apart := false }
def PartLogsSaid : Prop := partLogsRow.holds Tryz.pinned (OpenSpec.ofChange partLogsSpec)

/-- ITS FALSE NEIGHBOUR: 'it returns false'. Refute it at one input. -/
def partLogsWrong : ChangeSpec := { name := "partLogs", fn := fun _ => fun
  | [d1, d2] => { results := [.lit (.bool false)], args := [d1, d2] }
  | _ => none }
def PartLogsWrongFalsely : Prop := partLogsRow.holds Tryz.pinned (OpenSpec.ofChange partLogsWrong)

/-- 'furlonglaw19.PartForms': WHATEVER THE INPUT: true; the input reads as it did. -/
def partFormsSpec : ChangeSpec := { name := "partForms", fn := fun _ => fun
  | [d1, d2] => { results := [.lit (.bool true)], args := [d1, d2] }
  | _ => none }
def partFormsRow : OpenClaim := { program := "ytohbahdfbgndbaagreat", sum := "6e2c07d174868ab0355f208ba1f78a915a395645c2c23019f886257fe4542035", func := "furlong/furlonglaw19.PartForms", spec := "partForms", inPlace := ["sync/atomic.AddInt64", "sync/atomic.StoreInt64", "sync/atomic.LoadInt64"], unfollowed := true, recurses := true, plainKeys := false, apart := false }
def PartFormsSaid : Prop := partFormsRow.holds Tryz.pinned (OpenSpec.ofChange partFormsSpec)

/-- ITS FALSE NEIGHBOUR: 'it returns false'. Refute it at one input. -/
def partFormsWrong : ChangeSpec := { name := "partForms", fn := fun _ => fun
  | [d1, d2] => { results := [.lit (.bool false)], args := [d1, d2] }
  | _ => none }
def PartFormsWrongFalsely : Prop := partFormsRow.holds Tryz.pinned (OpenSpec.ofChange partFormsWrong)

/-- 'furlonglaw19.PartFirm': WHATEVER THE INPUT: true; the input reads as it did. -/
def partFirmSpec : ChangeSpec := { name := "partFirm", fn := fun _ => fun
  | [d] => { results := [.lit (.bool true)], args := [d] }
  | _ => none }
def partFirmRow : OpenClaim := { program := "ytohbahdfbgndbaagreat", sum := "6e2c07d174868ab0355f208ba1f78a915a395645c2c23019f886257fe4542035", func := "furlong/furlonglaw19.PartFirm", spec := "partFirm", inPlace := ["sync/atomic.AddInt64", "sync/atomic.StoreInt64", "sync/atomic.LoadInt64"], unfollowed := true, recurses := true, plainKeys := false, apart := false }
def PartFirmSaid : Prop := partFirmRow.holds Tryz.pinned (OpenSpec.ofChange partFirmSpec)

/-- ITS FALSE NEIGHBOUR: 'it returns false'. Refute it at one input. -/
def partFirmWrong : ChangeSpec := { name := "partFirm", fn := fun _ => fun
  | [d] => { results := [.lit (.bool false)], args := [d] }
  | _ => none }
def PartFirmWrongFalsely : Prop := partFirmRow.holds Tryz.pinned (OpenSpec.ofChange partFirmWrong)

/-- 'furlonglaw19.PartActs': WHATEVER THE INPUT: true; the input reads as it did. -/
def partActsSpec : ChangeSpec := { name := "partActs", fn := fun _ => fun
  | [d1, d2, d3, d4, d5] => { results := [.lit (.bool true)], args := [d1, d2, d3, d4, d5] }
  | _ => none }
def partActsRow : OpenClaim := { program := "ytohbahdfbgndbaagreat", sum := "6e2c07d174868ab0355f208ba1f78a915a395645c2c23019f886257fe4542035", func := "furlong/furlonglaw19.PartActs", spec := "partActs", inPlace := ["sync/atomic.AddInt64", "sync/atomic.StoreInt64", "sync/atomic.LoadInt64"], unfollowed := true, recurses := true, plainKeys := false, apart := false }
def PartActsSaid : Prop := partActsRow.holds Tryz.pinned (OpenSpec.ofChange partActsSpec)

/-- ITS FALSE NEIGHBOUR: 'it returns false'. Refute it at one input. -/
def partActsWrong : ChangeSpec := { name := "partActs", fn := fun _ => fun
  | [d1, d2, d3, d4, d5] => { results := [.lit (.bool false)], args := [d1, d2, d3, d4, d5] }
  | _ => none }
def PartActsWrongFalsely : Prop := partActsRow.holds Tryz.pinned (OpenSpec.ofChange partActsWrong)

/- THE SECOND FORM. 'bulk': how many values and letters a reading holds, each counted each time it is reached (what is shared counts as often as it is met; a slice's spare places count too). A statement '..UptoSaid' is the law's where the arguments, and the package variables that the reading takes, are together of bulk at most 1048576: NARROWER than '..Said'. Prove '..Said' where nothing that the law and all that it calls make is longer than what came in: it says more and counts as full. Else prove '..UptoSaid'. A law counts once. -/
mutual
def uptoBulk {H : Type} : DataW H → Nat
  | .lit (.string bytes) => bytes.length + 1
  | .lit _ => 1
  | .nil => 1
  | .ptr d => uptoBulk d + 1
  | .slice elems spare => uptoBulkAll elems + uptoBulkAll spare + 1
  | .agg parts => uptoBulkAll parts + 1
  | .iface _ d => uptoBulk d + 1
  | .map entries => uptoBulkEntries entries + 1
  | .held _ => 1
def uptoBulkAll {H : Type} : List (DataW H) → Nat
  | [] => 0
  | d :: r => uptoBulk d + uptoBulkAll r
def uptoBulkEntries {H : Type} : List (Lit × DataW H) → Nat
  | [] => 0
  | x :: r => uptoBulkEntry x + uptoBulkEntries r
def uptoBulkEntry {H : Type} : Lit × DataW H → Nat
  | (.string bytes, d) => bytes.length + uptoBulk d + 1
  | (_, d) => uptoBulk d + 1
 end
def uptoSmall : (H : Type) → List (DataW H) → Bool := fun _ ds => decide (uptoBulkAll ds ≤ 1048576)
def OpenSpec.upto (s : _root_.Go.ChangeSpec) : _root_.Go.OpenSpec := { _root_.Go.OpenSpec.ofChange s with cond := some uptoSmall }

/-- 'furlonglaw19.PartAsked', WHERE WHAT IT READS IS OF BULK AT MOST 1048576: true; the input reads as it did. -/
def partAskedUptoRow : OpenClaim := { program := "ytohbahdfbgndbaagreat", sum := "6e2c07d174868ab0355f208ba1f78a915a395645c2c23019f886257fe4542035", func := "furlong/furlonglaw19.PartAsked", spec := "partAsked", inPlace := ["sync/atomic.AddInt64", "sync/atomic.StoreInt64", "sync/atomic.LoadInt64"], unfollowed := true, recurses := true, plainKeys := false, apart := false, narrowed := true }
def PartAskedUptoSaid : Prop := partAskedUptoRow.holds Tryz.pinned (OpenSpec.upto partAskedSpec)

/-- 'furlonglaw19.PartBase', WHERE WHAT IT READS IS OF BULK AT MOST 1048576: true; the input reads as it did. -/
def partBaseUptoRow : OpenClaim := { program := "ytohbahdfbgndbaagreat", sum := "6e2c07d174868ab0355f208ba1f78a915a395645c2c23019f886257fe4542035", func := "furlong/furlonglaw19.PartBase", spec := "partBase", inPlace := ["sync/atomic.AddInt64", "sync/atomic.StoreInt64", "sync/atomic.LoadInt64"], unfollowed := true, recurses := true, plainKeys := false, apart := false, narrowed := true }
def PartBaseUptoSaid : Prop := partBaseUptoRow.holds Tryz.pinned (OpenSpec.upto partBaseSpec)

/-- 'furlonglaw19.PartClash', WHERE WHAT IT READS IS OF BULK AT MOST 1048576: true; the input reads as it did. -/
def partClashUptoRow : OpenClaim := { program := "ytohbahdfbgndbaagreat", sum := "6e2c07d174868ab0355f208ba1f78a915a395645c2c23019f886257fe4542035", func := "furlong/furlonglaw19.PartClash", spec := "partClash", inPlace := ["sync/atomic.AddInt64", "sync/atomic.StoreInt64", "sync/atomic.LoadInt64"], unfollowed := true, recurses := true, plainKeys := false, apart := false, narrowed := true }
def PartClashUptoSaid : Prop := partClashUptoRow.holds Tryz.pinned (OpenSpec.upto partClashSpec)

/-- 'furlonglaw19.PartRoom', WHERE WHAT IT READS IS OF BULK AT MOST 1048576: true; the input reads as it did. -/
def partRoomUptoRow : OpenClaim := { program := "ytohbahdfbgndbaagreat", sum := "6e2c07d174868ab0355f208ba1f78a915a395645c2c23019f886257fe4542035", func := "furlong/furlonglaw19.PartRoom", spec := "partRoom", inPlace := ["sync/atomic.AddInt64", "sync/atomic.StoreInt64", "sync/atomic.LoadInt64"], unfollowed := true, recurses := true, plainKeys := false, apart := false, narrowed := true }
def PartRoomUptoSaid : Prop := partRoomUptoRow.holds Tryz.pinned (OpenSpec.upto partRoomSpec)

/-- 'furlonglaw19.PartTicks', WHERE WHAT IT READS IS OF BULK AT MOST 1048576: true; the input reads as it did. -/
def partTicksUptoRow : OpenClaim := { program := "ytohbahdfbgndbaagreat", sum := "6e2c07d174868ab0355f208ba1f78a915a395645c2c23019f886257fe4542035", func := "furlong/furlonglaw19.PartTicks", spec := "partTicks", inPlace := ["sync/atomic.AddInt64", "sync/atomic.StoreInt64", "sync/atomic.LoadInt64"], unfollowed := true, recurses := true, plainKeys := false, apart := false, narrowed := true }
def PartTicksUptoSaid : Prop := partTicksUptoRow.holds Tryz.pinned (OpenSpec.upto partTicksSpec)

/-- 'furlonglaw19.PartLogs', WHERE WHAT IT READS IS OF BULK AT MOST 1048576: true; the input reads as it did. -/
def partLogsUptoRow : OpenClaim := { program := "ytohbahdfbgndbaagreat", sum := "6e2c07d174868ab0355f208ba1f78a915a395645c2c23019f886257fe4542035", func := "furlong/furlonglaw19.PartLogs", spec := "partLogs", inPlace := ["sync/atomic.AddInt64", "sync/atomic.StoreInt64", "sync/atomic.LoadInt64"], unfollowed := true, recurses := true, plainKeys := false, apart := false, narrowed := true }
def PartLogsUptoSaid : Prop := partLogsUptoRow.holds Tryz.pinned (OpenSpec.upto partLogsSpec)

/-- 'furlonglaw19.PartForms', WHERE WHAT IT READS IS OF BULK AT MOST 1048576: true; the input reads as it did. -/
def partFormsUptoRow : OpenClaim := { program := "ytohbahdfbgndbaagreat", sum := "6e2c07d174868ab0355f208ba1f78a915a395645c2c23019f886257fe4542035", func := "furlong/furlonglaw19.PartForms", spec := "partForms", inPlace := ["sync/atomic.AddInt64", "sync/atomic.StoreInt64", "sync/atomic.LoadInt64"], unfollowed := true, recurses := true, plainKeys := false, apart := false, narrowed := true }
def PartFormsUptoSaid : Prop := partFormsUptoRow.holds Tryz.pinned (OpenSpec.upto partFormsSpec)

/-- 'furlonglaw19.PartFirm', WHERE WHAT IT READS IS OF BULK AT MOST 1048576: true; the input reads as it did. -/
def partFirmUptoRow : OpenClaim := { program := "ytohbahdfbgndbaagreat", sum := "6e2c07d174868ab0355f208ba1f78a915a395645c2c23019f886257fe4542035", func := "furlong/furlonglaw19.PartFirm", spec := "partFirm", inPlace := ["sync/atomic.AddInt64", "sync/atomic.StoreInt64", "sync/atomic.LoadInt64"], unfollowed := true, recurses := true, plainKeys := false, apart := false, narrowed := true }
def PartFirmUptoSaid : Prop := partFirmUptoRow.holds Tryz.pinned (OpenSpec.upto partFirmSpec)

/-- 'furlonglaw19.PartActs', WHERE WHAT IT READS IS OF BULK AT MOST 1048576: true; the input reads as it did. -/
def partActsUptoRow : OpenClaim := { program := "ytohbahdfbgndbaagreat", sum := "6e2c07d174868ab0355f208ba1f78a915a395645c2c23019f886257fe4542035", func := "furlong/furlonglaw19.PartActs", spec := "partActs", inPlace := ["sync/atomic.AddInt64", "sync/atomic.StoreInt64", "sync/atomic.LoadInt64"], unfollowed := true, recurses := true, plainKeys := false, apart := false, narrowed := true }
def PartActsUptoSaid : Prop := partActsUptoRow.holds Tryz.pinned (OpenSpec.upto partActsSpec)

end Rows
end Go.Proofs.YtohbahdfbgndbaaGreat
