/-
  No cell of these rows narrows 'for every input' (looked for: loops, veiled, ifaces, maps, wideKeys, modest, calm, conditions, laid).
  DERIVED. THE GIVEN ROWS OF THIS SEAT. 4 by the template 'for every input the law returns true; each argument reads behind the call as it read before'; 0 by the template 'total and deterministic' (their statements: YtkgglkoooldodaaTotals.lean).
  GIVEN WITH THE SEED: the statements are not yours to turn. If you find one false, say at which input.
  Laid BY PROGRAM, IN A SANDBOX (cutbox-rows.mjs): the forced cells as the released guide's own fill.sh prints them over the translation f31ecccc2c84c995… (all of the seat's roots in one cut). By AI agents, Wed Nov 11 2026. No macro, syntax, notation, axiom, sorry.
-/
import Derived.Test.YtkgglkoooldodaaChecked
import GoSem.Claim
import GoSem.ClaimJoined
import GoSem.ClaimMapViews
import Derived.JoinedTies
import Derived.KernelRfl
namespace Go.Proofs.Ytkgglkoooldodaa
/- THE CELL 'sum', in the pinned program and in every row, IS THE sha256 OF THE DUMP (.gsa) THAT YtkgglkoooldodaaProg.lean LOADS. Nothing in Lean hashes anything: it is a label: what it is worth is what the hold of that sum in a sandbox is worth. -/
noncomputable def Try.pinned : Pinned := { name := "ytkgglkoooldodaa", sum := "f31ecccc2c84c995ce7eb3ae861822561fe990286e1cb624e82f2f6366c8db27", checked := Try.checked }
namespace Rows
def none {H : Type} : Left H := { results := [], args := [] }

/-- 'furlonglaw10.WalHolds': WHATEVER THE INPUT: true; the input reads as it did. -/
def walHoldsSpec : ChangeSpec := { name := "walHolds", fn := fun _ => fun
  | [d1, d2, d3] => { results := [.lit (.bool true)], args := [d1, d2, d3] }
  | _ => none }
def walHoldsRow : OpenClaim := { program := "ytkgglkoooldodaa", sum := "f31ecccc2c84c995ce7eb3ae861822561fe990286e1cb624e82f2f6366c8db27", func := "furlong/furlonglaw10.WalHolds", spec := "walHolds", inPlace := ["sync/atomic.AddInt64", "sync/atomic.StoreInt64", "sync/atomic.LoadInt64"], unfollowed := true, recurses := true, apart := false }
def WalHoldsSaid : Prop := walHoldsRow.holds Try.pinned (OpenSpec.ofChange walHoldsSpec)

/-- ITS FALSE NEIGHBOUR: 'it returns false'. Refute it at one input. -/
def walHoldsWrong : ChangeSpec := { name := "walHolds", fn := fun _ => fun
  | [d1, d2, d3] => { results := [.lit (.bool false)], args := [d1, d2, d3] }
  | _ => none }
def WalHoldsWrongFalsely : Prop := walHoldsRow.holds Try.pinned (OpenSpec.ofChange walHoldsWrong)

/-- 'furlonglaw10.WalGoes': WHATEVER THE INPUT: true; the input reads as it did. -/
def walGoesSpec : ChangeSpec := { name := "walGoes", fn := fun _ => fun
  | [d1, d2] => { results := [.lit (.bool true)], args := [d1, d2] }
  | _ => none }
def walGoesRow : OpenClaim := { program := "ytkgglkoooldodaa", sum := "f31ecccc2c84c995ce7eb3ae861822561fe990286e1cb624e82f2f6366c8db27", func := "furlong/furlonglaw10.WalGoes", spec := "walGoes", inPlace := ["sync/atomic.AddInt64", "sync/atomic.StoreInt64", "sync/atomic.LoadInt64"], unfollowed := true, recurses := true, apart := false }
def WalGoesSaid : Prop := walGoesRow.holds Try.pinned (OpenSpec.ofChange walGoesSpec)

/-- ITS FALSE NEIGHBOUR: 'it returns false'. Refute it at one input. -/
def walGoesWrong : ChangeSpec := { name := "walGoes", fn := fun _ => fun
  | [d1, d2] => { results := [.lit (.bool false)], args := [d1, d2] }
  | _ => none }
def WalGoesWrongFalsely : Prop := walGoesRow.holds Try.pinned (OpenSpec.ofChange walGoesWrong)

/-- 'furlonglaw10.WalForms': WHATEVER THE INPUT: true; the input reads as it did. -/
def walFormsSpec : ChangeSpec := { name := "walForms", fn := fun _ => fun
  | [d1, d2] => { results := [.lit (.bool true)], args := [d1, d2] }
  | _ => none }
def walFormsRow : OpenClaim := { program := "ytkgglkoooldodaa", sum := "f31ecccc2c84c995ce7eb3ae861822561fe990286e1cb624e82f2f6366c8db27", func := "furlong/furlonglaw10.WalForms", spec := "walForms", inPlace := ["sync/atomic.AddInt64", "sync/atomic.StoreInt64", "sync/atomic.LoadInt64"], unfollowed := true, recurses := true, apart := false }
def WalFormsSaid : Prop := walFormsRow.holds Try.pinned (OpenSpec.ofChange walFormsSpec)

/-- ITS FALSE NEIGHBOUR: 'it returns false'. Refute it at one input. -/
def walFormsWrong : ChangeSpec := { name := "walForms", fn := fun _ => fun
  | [d1, d2] => { results := [.lit (.bool false)], args := [d1, d2] }
  | _ => none }
def WalFormsWrongFalsely : Prop := walFormsRow.holds Try.pinned (OpenSpec.ofChange walFormsWrong)

/-- 'furlonglaw10.WalActs': WHATEVER THE INPUT: true; the input reads as it did. -/
def walActsSpec : ChangeSpec := { name := "walActs", fn := fun _ => fun
  | [d1, d2] => { results := [.lit (.bool true)], args := [d1, d2] }
  | _ => none }
def walActsRow : OpenClaim := { program := "ytkgglkoooldodaa", sum := "f31ecccc2c84c995ce7eb3ae861822561fe990286e1cb624e82f2f6366c8db27", func := "furlong/furlonglaw10.WalActs", spec := "walActs", inPlace := ["sync/atomic.AddInt64", "sync/atomic.StoreInt64", "sync/atomic.LoadInt64"], unfollowed := true, recurses := true, apart := false }
def WalActsSaid : Prop := walActsRow.holds Try.pinned (OpenSpec.ofChange walActsSpec)

/-- ITS FALSE NEIGHBOUR: 'it returns false'. Refute it at one input. -/
def walActsWrong : ChangeSpec := { name := "walActs", fn := fun _ => fun
  | [d1, d2] => { results := [.lit (.bool false)], args := [d1, d2] }
  | _ => none }
def WalActsWrongFalsely : Prop := walActsRow.holds Try.pinned (OpenSpec.ofChange walActsWrong)

/- THE SECOND FORM. 'bulk': how many values and letters a reading holds, each counted each time it is reached (what is shared counts as often as it is met; a slice's spare places count too). A statement '..UptoSaid' is the law's where the arguments, and the package variables that the reading takes, are together of bulk at most 1048576: NARROWER than '..Said'. Prove '..Said' where nothing that the law and all that it calls make is longer than what came in: it says more and counts as full. Else prove '..UptoSaid'. A law counts once. -/
mutual
def uptoBulk {H : Type} : DataW H → Nat
  | .lit (.string bytes) => bytes.length + 1
  | .lit _ => 1
  | .nil => 1
  | .ptr d => uptoBulk d + 1
  | .slice elems spare => uptoBulkAll elems + uptoBulkAll spare + 1
  | .agg parts => uptoBulkAll parts + 1
  | .iface _ d => uptoBulk d + 1
  | .map entries => uptoBulkEntries entries + 1
  | .held _ => 1
def uptoBulkAll {H : Type} : List (DataW H) → Nat
  | [] => 0
  | d :: r => uptoBulk d + uptoBulkAll r
def uptoBulkEntries {H : Type} : List (Lit × DataW H) → Nat
  | [] => 0
  | x :: r => uptoBulkEntry x + uptoBulkEntries r
def uptoBulkEntry {H : Type} : Lit × DataW H → Nat
  | (.string bytes, d) => bytes.length + uptoBulk d + 1
  | (_, d) => uptoBulk d + 1
 end
def uptoSmall : (H : Type) → List (DataW H) → Bool := fun _ ds => decide (uptoBulkAll ds ≤ 1048576)
def OpenSpec.upto (s : _root_.Go.ChangeSpec) : _root_.Go.OpenSpec := { _root_.Go.OpenSpec.ofChange s with cond := some uptoSmall }

/-- 'furlonglaw10.WalHolds', WHERE WHAT IT READS IS OF BULK AT MOST 1048576: true; the input reads as it did. -/
def walHoldsUptoRow : OpenClaim := { program := "ytkgglkoooldodaa", sum := "f31ecccc2c84c995ce7eb3ae861822561fe990286e1cb624e82f2f6366c8db27", func := "furlong/furlonglaw10.WalHolds", spec := "walHolds", inPlace := ["sync/atomic.AddInt64", "sync/atomic.StoreInt64", "sync/atomic.LoadInt64"], unfollowed := true, recurses := true, apart := false, narrowed := true }
def WalHoldsUptoSaid : Prop := walHoldsUptoRow.holds Try.pinned (OpenSpec.upto walHoldsSpec)

/-- 'furlonglaw10.WalGoes', WHERE WHAT IT READS IS OF BULK AT MOST 1048576: true; the input reads as it did. -/
def walGoesUptoRow : OpenClaim := { program := "ytkgglkoooldodaa", sum := "f31ecccc2c84c995ce7eb3ae861822561fe990286e1cb624e82f2f6366c8db27", func := "furlong/furlonglaw10.WalGoes", spec := "walGoes", inPlace := ["sync/atomic.AddInt64", "sync/atomic.StoreInt64", "sync/atomic.LoadInt64"], unfollowed := true, recurses := true, apart := false, narrowed := true }
def WalGoesUptoSaid : Prop := walGoesUptoRow.holds Try.pinned (OpenSpec.upto walGoesSpec)

/-- 'furlonglaw10.WalForms', WHERE WHAT IT READS IS OF BULK AT MOST 1048576: true; the input reads as it did. -/
def walFormsUptoRow : OpenClaim := { program := "ytkgglkoooldodaa", sum := "f31ecccc2c84c995ce7eb3ae861822561fe990286e1cb624e82f2f6366c8db27", func := "furlong/furlonglaw10.WalForms", spec := "walForms", inPlace := ["sync/atomic.AddInt64", "sync/atomic.StoreInt64", "sync/atomic.LoadInt64"], unfollowed := true, recurses := true, apart := false, narrowed := true }
def WalFormsUptoSaid : Prop := walFormsUptoRow.holds Try.pinned (OpenSpec.upto walFormsSpec)

/-- 'furlonglaw10.WalActs', WHERE WHAT IT READS IS OF BULK AT MOST 1048576: true; the input reads as it did. -/
def walActsUptoRow : OpenClaim := { program := "ytkgglkoooldodaa", sum := "f31ecccc2c84c995ce7eb3ae861822561fe990286e1cb624e82f2f6366c8db27", func := "furlong/furlonglaw10.WalActs", spec := "walActs", inPlace := ["sync/atomic.AddInt64", "sync/atomic.StoreInt64", "sync/atomic.LoadInt64"], unfollowed := true, recurses := true, apart := false, narrowed := true }
def WalActsUptoSaid : Prop := walActsUptoRow.holds Try.pinned (OpenSpec.upto walActsSpec)

end Rows
end Go.Proofs.Ytkgglkoooldodaa
