/-
  No cell of these rows narrows 'for every input' (looked for: loops, veiled, ifaces, maps, wideKeys, modest, calm, conditions, laid).
  DERIVED. THE GIVEN ROWS OF THIS SEAT. 7 by the template 'for every input the law returns true; each argument reads behind the call as it read before'; 0 by the template 'total and deterministic' (their statements: YtafndcdkgkkfkaaGreatTotals.lean).
  GIVEN WITH THE SEED: the statements are not yours to turn. If you find one false, say at which input.
  Laid BY PROGRAM, IN A SANDBOX (cutbox-rows.mjs): the forced cells as the released guide's own fill.sh prints them over the translation d67126b531420527… (all of the seat's roots in one cut). By AI agents, Wed Nov 11 2026. No macro, syntax, notation, axiom, sorry.
-/
import Derived.Test.YtafndcdkgkkfkaaGreatChecked
import GoSem.Claim
import GoSem.ClaimJoined
import GoSem.ClaimMapViews
import Derived.JoinedTies
import Derived.KernelRfl
namespace Go.Proofs.YtafndcdkgkkfkaaGreat
/- THE CELL 'sum', in the pinned program and in every row, IS THE sha256 OF THE DUMP (.gsa) THAT YtafndcdkgkkfkaaGreatProg.lean LOADS. Nothing in Lean hashes anything: it is a label: what it is worth is what the hold of that sum in a sandbox is worth. -/
noncomputable def Tryz.pinned : Pinned := { name := "ytafndcdkgkkfkaagreat", sum := "d67126b53142052761fc6c8ae13ba6c91e25883d3ae00d99bc702a7d9617d7bb", checked := Tryz.checked }
namespace Rows
def none {H : Type} : Left H := { results := [], args := [] }

/-- 'furlonglaw20.CoordAll': WHATEVER THE INPUT: true; the input reads as it did. -/
def coordAllSpec : ChangeSpec := { name := "coordAll", fn := fun _ => fun
  | [d1, d2, d3] => { results := [.lit (.bool true)], args := [d1, d2, d3] }
  | _ => none }
def coordAllRow : OpenClaim := { program := "ytafndcdkgkkfkaagreat", sum := "d67126b53142052761fc6c8ae13ba6c91e25883d3ae00d99bc702a7d9617d7bb", func := "furlong/furlonglaw20.CoordAll", spec := "coordAll", inPlace := ["sync/atomic.AddInt64", "sync/atomic.StoreInt64", "sync/atomic.LoadInt64"], unfollowed := true, recurses := true, plainKeys := false, apart := false }
def CoordAllSaid : Prop := coordAllRow.holds Tryz.pinned (OpenSpec.ofChange coordAllSpec)

/-- ITS FALSE NEIGHBOUR: 'it returns false'. Refute it at one input. -/
def coordAllWrong : ChangeSpec := { name := "coordAll", fn := fun _ => fun
  | [d1, d2, d3] => { results := [.lit (.bool false)], args := [d1, d2, d3] }
  | _ => none }
def CoordAllWrongFalsely : Prop := coordAllRow.holds Tryz.pinned (OpenSpec.ofChange coordAllWrong)

/-- 'furlonglaw20.CoordLate': WHATEVER THE INPUT: true; the input reads as it did. -/
def coordLateSpec : ChangeSpec := { name := "coordLate", fn := fun _ => fun
  | [d1, d2] => { results := [.lit (.bool true)], args := [d1, d2] }
  | _ => none }
def coordLateRow : OpenClaim := { program := "ytafndcdkgkkfkaagreat", sum := "d67126b53142052761fc6c8ae13ba6c91e25883d3ae00d99bc702a7d9617d7bb", func := "furlong/furlonglaw20.CoordLate", spec := "coordLate", inPlace := ["sync/atomic.AddInt64", "sync/atomic.StoreInt64", "sync/atomic.LoadInt64"], unfollowed := true, recurses := true, plainKeys := false, apart := false }
def CoordLateSaid : Prop := coordLateRow.holds Tryz.pinned (OpenSpec.ofChange coordLateSpec)

/-- ITS FALSE NEIGHBOUR: 'it returns false'. Refute it at one input. -/
def coordLateWrong : ChangeSpec := { name := "coordLate", fn := fun _ => fun
  | [d1, d2] => { results := [.lit (.bool false)], args := [d1, d2] }
  | _ => none }
def CoordLateWrongFalsely : Prop := coordLateRow.holds Tryz.pinned (OpenSpec.ofChange coordLateWrong)

/-- 'furlonglaw20.CoordAcks': WHATEVER THE INPUT: true; the input reads as it did. -/
def coordAcksSpec : ChangeSpec := { name := "coordAcks", fn := fun _ => fun
  | [d1, d2] => { results := [.lit (.bool true)], args := [d1, d2] }
  | _ => none }
def coordAcksRow : OpenClaim := { program := "ytafndcdkgkkfkaagreat", sum := "d67126b53142052761fc6c8ae13ba6c91e25883d3ae00d99bc702a7d9617d7bb", func := "furlong/furlonglaw20.CoordAcks", spec := "coordAcks", inPlace := ["sync/atomic.AddInt64", "sync/atomic.StoreInt64", "sync/atomic.LoadInt64"], unfollowed := true, recurses := true, plainKeys := false, apart := false }
def CoordAcksSaid : Prop := coordAcksRow.holds Tryz.pinned (OpenSpec.ofChange coordAcksSpec)

/-- ITS FALSE NEIGHBOUR: 'it returns false'. Refute it at one input. -/
def coordAcksWrong : ChangeSpec := { name := "coordAcks", fn := fun _ => fun
  | [d1, d2] => { results := [.lit (.bool false)], args := [d1, d2] }
  | _ => none }
def CoordAcksWrongFalsely : Prop := coordAcksRow.holds Tryz.pinned (OpenSpec.ofChange coordAcksWrong)

/-- 'furlonglaw20.CoordForms': WHATEVER THE INPUT: true; the input reads as it did. -/
def coordFormsSpec : ChangeSpec := { name := "coordForms", fn := fun _ => fun
  | [d1, d2] => { results := [.lit (.bool true)], args := [d1, d2] }
  | _ => none }
def coordFormsRow : OpenClaim := { program := "ytafndcdkgkkfkaagreat", sum := "d67126b53142052761fc6c8ae13ba6c91e25883d3ae00d99bc702a7d9617d7bb", func := "furlong/furlonglaw20.CoordForms", spec := "coordForms", inPlace := ["sync/atomic.AddInt64", "sync/atomic.StoreInt64", "sync/atomic.LoadInt64"], unfollowed := true, recurses := true, plainKeys := false, apart := false }
def CoordFormsSaid : Prop := coordFormsRow.holds Tryz.pinned (OpenSpec.ofChange coordFormsSpec)

/-- ITS FALSE NEIGHBOUR: 'it returns false'. Refute it at one input. -/
def coordFormsWrong : ChangeSpec := { name := "coordForms", fn := fun _ => fun
  | [d1, d2] => { results := [.lit (.bool false)], args := [d1, d2] }
  | _ => none }
def CoordFormsWrongFalsely : Prop := coordFormsRow.holds Tryz.pinned (OpenSpec.ofChange coordFormsWrong)

/-- 'furlonglaw20.CoordAlone': WHATEVER THE INPUT: true; the input reads as it did. -/
def coordAloneSpec : ChangeSpec := { name := "coordAlone", fn := fun _ => fun
  | [d] => { results := [.lit (.bool true)], args := [d] }
  | _ => none }
def coordAloneRow : OpenClaim := { program := "ytafndcdkgkkfkaagreat", sum := "d67126b53142052761fc6c8ae13ba6c91e25883d3ae00d99bc702a7d9617d7bb", func := "furlong/furlonglaw20.CoordAlone", spec := "coordAlone", inPlace := ["sync/atomic.AddInt64", "sync/atomic.StoreInt64", "sync/atomic.LoadInt64"], unfollowed := true, recurses := true, plainKeys := false, apart := false }
def CoordAloneSaid : Prop := coordAloneRow.holds Tryz.pinned (OpenSpec.ofChange coordAloneSpec)

/-- ITS FALSE NEIGHBOUR: 'it returns false'. Refute it at one input. -/
def coordAloneWrong : ChangeSpec := { name := "coordAlone", fn := fun _ => fun
  | [d] => { results := [.lit (.bool false)], args := [d] }
  | _ => none }
def CoordAloneWrongFalsely : Prop := coordAloneRow.holds Tryz.pinned (OpenSpec.ofChange coordAloneWrong)

/-- 'furlonglaw20.CoordStrangers': WHATEVER THE INPUT: true; the input reads as it did. -/
def coordStrangersSpec : ChangeSpec := { name := "coordStrangers", fn := fun _ => fun
  | [d1, d2, d3] => { results := [.lit (.bool true)], args := [d1, d2, d3] }
  | _ => none }
def coordStrangersRow : OpenClaim := { program := "ytafndcdkgkkfkaagreat", sum := "d67126b53142052761fc6c8ae13ba6c91e25883d3ae00d99bc702a7d9617d7bb", func := "furlong/furlonglaw20.CoordStrangers", spec := "coordStrangers", inPlace := ["sync/atomic.AddInt64", "sync/atomic.StoreInt64", "sync/atomic.LoadInt64"], unfollowed := true, recurses := true, plainKeys := false, apart := false }
def CoordStrangersSaid : Prop := coordStrangersRow.holds Tryz.pinned (OpenSpec.ofChange coordStrangersSpec)

/-- ITS FALSE NEIGHBOUR: 'it returns false'. Refute it at one input. -/
def coordStrangersWrong : ChangeSpec := { name := "coordStrangers", fn := fun _ => fun
  | [d1, d2, d3] => { results := [.lit (.bool false)], args := [d1, d2, d3] }
  | _ => none }
def CoordStrangersWrongFalsely : Prop := coordStrangersRow.holds Tryz.pinned (OpenSpec.ofChange coordStrangersWrong)

/-- 'furlonglaw20.CoordReturns': WHATEVER THE INPUT: true; the input reads as it did. -/
def coordReturnsSpec : ChangeSpec := { name := "coordReturns", fn := fun _ => fun
  | [d1, d2, d3, d4] => { results := [.lit (.bool true)], args := [d1, d2, d3, d4] }
  | _ => none }
def coordReturnsRow : OpenClaim := { program := "ytafndcdkgkkfkaagreat", sum := "d67126b53142052761fc6c8ae13ba6c91e25883d3ae00d99bc702a7d9617d7bb", func := "furlong/furlonglaw20.CoordReturns", spec := "coordReturns", inPlace := ["sync/atomic.AddInt64", "sync/atomic.StoreInt64", "sync/atomic.LoadInt64"], unfollowed := true, recurses := true, plainKeys := false, apart := false }
def CoordReturnsSaid : Prop := coordReturnsRow.holds Tryz.pinned (OpenSpec.ofChange coordReturnsSpec)

/-- ITS FALSE NEIGHBOUR: 'it returns false'. Refute it at one input. -/
def coordReturnsWrong : ChangeSpec := { name := "coordReturns", fn := fun _ => fun
  | [d1, d2, d3, d4] => { results := [.lit (.bool false)], args := [d1, d2, d3, d4] }
  | _ => none }
def CoordReturnsWrongFalsely : Prop := coordReturnsRow.holds Tryz.pinned (OpenSpec.ofChange coordReturnsWrong)

/- THE SECOND FORM. 'bulk': how many values and letters a reading holds, each counted each time it is reached (what is shared counts as often as it is met; a slice's spare places count too). A statement '..UptoSaid' is the law's where the arguments, and the package variables that the reading takes, are together of bulk at most 1048576: NARROWER than '..Said'. Prove '..Said' where nothing that the law and all that it calls make is longer than what came in: it says more and counts as full. Else prove '..UptoSaid'. A law counts once. -/
mutual
def uptoBulk {H : Type} : DataW H → Nat
  | .lit (.string bytes) => bytes.length + 1
  | .lit _ => 1
  | .nil => 1
  | .ptr d => uptoBulk d + 1
  | .slice elems spare => uptoBulkAll elems + uptoBulkAll spare + 1
  | .agg parts => uptoBulkAll parts + 1
  | .iface _ d => uptoBulk d + 1
  | .map entries => uptoBulkEntries entries + 1
  | .held _ => 1
def uptoBulkAll {H : Type} : List (DataW H) → Nat
  | [] => 0
  | d :: r => uptoBulk d + uptoBulkAll r
def uptoBulkEntries {H : Type} : List (Lit × DataW H) → Nat
  | [] => 0
  | x :: r => uptoBulkEntry x + uptoBulkEntries r
def uptoBulkEntry {H : Type} : Lit × DataW H → Nat
  | (.string bytes, d) => bytes.length + uptoBulk d + 1
  | (_, d) => uptoBulk d + 1
 end
def uptoSmall : (H : Type) → List (DataW H) → Bool := fun _ ds => decide (uptoBulkAll ds ≤ 1048576)
def OpenSpec.upto (s : _root_.Go.ChangeSpec) : _root_.Go.OpenSpec := { _root_.Go.OpenSpec.ofChange s with cond := some uptoSmall }

/-- 'furlonglaw20.CoordAll', WHERE WHAT IT READS IS OF BULK AT MOST 1048576: true; the input reads as it did. -/
def coordAllUptoRow : OpenClaim := { program := "ytafndcdkgkkfkaagreat", sum := "d67126b53142052761fc6c8ae13ba6c91e25883d3ae00d99bc702a7d9617d7bb", func := "furlong/furlonglaw20.CoordAll", spec := "coordAll", inPlace := ["sync/atomic.AddInt64", "sync/atomic.StoreInt64", "sync/atomic.LoadInt64"], unfollowed := true, recurses := true, plainKeys := false, apart := false, narrowed := true }
def CoordAllUptoSaid : Prop := coordAllUptoRow.holds Tryz.pinned (OpenSpec.upto coordAllSpec)

/-- 'furlonglaw20.CoordLate', WHERE WHAT IT READS IS OF BULK AT MOST 1048576: true; the input reads as it did. -/
def coordLateUptoRow : OpenClaim := { program := "ytafndcdkgkkfkaagreat", sum := "d67126b53142052761fc6c8ae13ba6c91e25883d3ae00d99bc702a7d9617d7bb", func := "furlong/furlonglaw20.CoordLate", spec := "coordLate", inPlace := ["sync/atomic.AddInt64", "sync/atomic.StoreInt64", "sync/atomic.LoadInt64"], unfollowed := true, recurses := true, plainKeys := false, apart := false, narrowed := true }
def CoordLateUptoSaid : Prop := coordLateUptoRow.holds Tryz.pinned (OpenSpec.upto coordLateSpec)

/-- 'furlonglaw20.CoordAcks', WHERE WHAT IT READS IS OF BULK AT MOST 1048576: true; the input reads as it did. -/
def coordAcksUptoRow : OpenClaim := { program := "ytafndcdkgkkfkaagreat", sum := "d67126b53142052761fc6c8ae13ba6c91e25883d3ae00d99bc702a7d9617d7bb", func := "furlong/furlonglaw20.CoordAcks", spec := "coordAcks", inPlace := ["sync/atomic.AddInt64", "sync/atomic.StoreInt64", "sync/atomic.LoadInt64"], unfollowed := true, recurses := true, plainKeys := false, apart := false, narrowed := true }
def CoordAcksUptoSaid : Prop := coordAcksUptoRow.holds Tryz.pinned (OpenSpec.upto coordAcksSpec)

/-- 'furlonglaw20.CoordForms', WHERE WHAT IT READS IS OF BULK AT MOST 1048576: true; the input reads as it did. -/
def coordFormsUptoRow : OpenClaim := { program := "ytafndcdkgkkfkaagreat", sum := "d67126b53142052761fc6c8ae13ba6c91e25883d3ae00d99bc702a7d9617d7bb", func := "furlong/furlonglaw20.CoordForms", spec := "coordForms", inPlace := ["sync/atomic.AddInt64", "sync/atomic.StoreInt64", "sync/atomic.LoadInt64"], unfollowed := true, recurses := true, plainKeys := false, apart := false, narrowed := true }
def CoordFormsUptoSaid : Prop := coordFormsUptoRow.holds Tryz.pinned (OpenSpec.upto coordFormsSpec)

/-- 'furlonglaw20.CoordAlone', WHERE WHAT IT READS IS OF BULK AT MOST 1048576: true; the input reads as it did. -/
def coordAloneUptoRow : OpenClaim := { program := "ytafndcdkgkkfkaagreat", sum := "d67126b53142052761fc6c8ae13ba6c91e25883d3ae00d99bc702a7d9617d7bb", func := "furlong/furlonglaw20.CoordAlone", spec := "coordAlone", inPlace := ["sync/atomic.AddInt64", "sync/atomic.StoreInt64", "sync/atomic.LoadInt64"], unfollowed := true, recurses := true, plainKeys := false, apart := false, narrowed := true }
def CoordAloneUptoSaid : Prop := coordAloneUptoRow.holds Tryz.pinned (OpenSpec.upto coordAloneSpec)

/-- 'furlonglaw20.CoordStrangers', WHERE WHAT IT READS IS OF BULK AT MOST 1048576: true; the input reads as it did. -/
def coordStrangersUptoRow : OpenClaim := { program := "ytafndcdkgkkfkaagreat", sum := "d67126b53142052761fc6c8ae13ba6c91e25883d3ae00d99bc702a7d9617d7bb", func := "furlong/furlonglaw20.CoordStrangers", spec := "coordStrangers", inPlace := ["sync/atomic.AddInt64", "sync/atomic.StoreInt64", "sync/atomic.LoadInt64"], unfollowed := true, recurses := true, plainKeys := false, apart := false, narrowed := true }
def CoordStrangersUptoSaid : Prop := coordStrangersUptoRow.holds Tryz.pinned (OpenSpec.upto coordStrangersSpec)

/-- 'furlonglaw20.CoordReturns', WHERE WHAT IT READS IS OF BULK AT MOST 1048576: true; the input reads as it did. -/
def coordReturnsUptoRow : OpenClaim := { program := "ytafndcdkgkkfkaagreat", sum := "d67126b53142052761fc6c8ae13ba6c91e25883d3ae00d99bc702a7d9617d7bb", func := "furlong/furlonglaw20.CoordReturns", spec := "coordReturns", inPlace := ["sync/atomic.AddInt64", "sync/atomic.StoreInt64", "sync/atomic.LoadInt64"], unfollowed := true, recurses := true, plainKeys := false, apart := false, narrowed := true }
def CoordReturnsUptoSaid : Prop := coordReturnsUptoRow.holds Tryz.pinned (OpenSpec.upto coordReturnsSpec)

end Rows
end Go.Proofs.YtafndcdkgkkfkaaGreat
