/-
  No cell of these rows narrows 'for every input' (looked for: loops, veiled, ifaces, maps, wideKeys, modest, calm, conditions, laid).
  DERIVED. THE GIVEN ROWS OF THIS SEAT. 6 by the template 'for every input the law returns true; each argument reads behind the call as it read before'; 0 by the template 'total and deterministic' (their statements: YtlbcfkkeoedhdaaTotals.lean).
  GIVEN WITH THE SEED: the statements are not yours to turn. If you find one false, say at which input.
  Laid BY PROGRAM, IN A SANDBOX (cutbox-rows.mjs): the forced cells as the released guide's own fill.sh prints them over the translation bc7faef97fbc07a0… (all of the seat's roots in one cut). By AI agents, Wed Nov 11 2026. No macro, syntax, notation, axiom, sorry.
-/
import Derived.Test.YtlbcfkkeoedhdaaChecked
import GoSem.Claim
import GoSem.ClaimJoined
import GoSem.ClaimMapViews
import Derived.JoinedTies
import Derived.KernelRfl
namespace Go.Proofs.Ytlbcfkkeoedhdaa
/- THE CELL 'sum', in the pinned program and in every row, IS THE sha256 OF THE DUMP (.gsa) THAT YtlbcfkkeoedhdaaProg.lean LOADS. Nothing in Lean hashes anything: it is a label: what it is worth is what the hold of that sum in a sandbox is worth. -/
noncomputable def Try.pinned : Pinned := { name := "ytlbcfkkeoedhdaa", sum := "bc7faef97fbc07a0d2012bec0f12c94f01d74844e9d31c889e03ecca53436960", checked := Try.checked }
namespace Rows
def none {H : Type} : Left H := { results := [], args := [] }

/-- 'bowlinelaw10.SrrPlays': WHATEVER THE INPUT: true; the input reads as it did. -/
def srrPlaysSpec : ChangeSpec := { name := "srrPlays", fn := fun _ => fun
  | [d1, d2, d3] => { results := [.lit (.bool true)], args := [d1, d2, d3] }
  | _ => none }
def srrPlaysRow : OpenClaim := { program := "ytlbcfkkeoedhdaa", sum := "bc7faef97fbc07a0d2012bec0f12c94f01d74844e9d31c889e03ecca53436960", func := "bowline/bowlinelaw10.SrrPlays", spec := "srrPlays", unfollowed := true, recurses := true, apart := false }
def SrrPlaysSaid : Prop := srrPlaysRow.holds Try.pinned (OpenSpec.ofChange srrPlaysSpec)

/-- ITS FALSE NEIGHBOUR: 'it returns false'. Refute it at one input. -/
def srrPlaysWrong : ChangeSpec := { name := "srrPlays", fn := fun _ => fun
  | [d1, d2, d3] => { results := [.lit (.bool false)], args := [d1, d2, d3] }
  | _ => none }
def SrrPlaysWrongFalsely : Prop := srrPlaysRow.holds Try.pinned (OpenSpec.ofChange srrPlaysWrong)

/-- 'bowlinelaw10.SrrFair': WHATEVER THE INPUT: true; the input reads as it did. -/
def srrFairSpec : ChangeSpec := { name := "srrFair", fn := fun _ => fun
  | [d1, d2, d3] => { results := [.lit (.bool true)], args := [d1, d2, d3] }
  | _ => none }
def srrFairRow : OpenClaim := { program := "ytlbcfkkeoedhdaa", sum := "bc7faef97fbc07a0d2012bec0f12c94f01d74844e9d31c889e03ecca53436960", func := "bowline/bowlinelaw10.SrrFair", spec := "srrFair", unfollowed := true, recurses := true, apart := false }
def SrrFairSaid : Prop := srrFairRow.holds Try.pinned (OpenSpec.ofChange srrFairSpec)

/-- ITS FALSE NEIGHBOUR: 'it returns false'. Refute it at one input. -/
def srrFairWrong : ChangeSpec := { name := "srrFair", fn := fun _ => fun
  | [d1, d2, d3] => { results := [.lit (.bool false)], args := [d1, d2, d3] }
  | _ => none }
def SrrFairWrongFalsely : Prop := srrFairRow.holds Try.pinned (OpenSpec.ofChange srrFairWrong)

/-- 'bowlinelaw10.SrrLoads': WHATEVER THE INPUT: true; the input reads as it did. -/
def srrLoadsSpec : ChangeSpec := { name := "srrLoads", fn := fun _ => fun
  | [d1, d2, d3, d4, d5] => { results := [.lit (.bool true)], args := [d1, d2, d3, d4, d5] }
  | _ => none }
def srrLoadsRow : OpenClaim := { program := "ytlbcfkkeoedhdaa", sum := "bc7faef97fbc07a0d2012bec0f12c94f01d74844e9d31c889e03ecca53436960", func := "bowline/bowlinelaw10.SrrLoads", spec := "srrLoads", unfollowed := true, recurses := true, apart := false }
def SrrLoadsSaid : Prop := srrLoadsRow.holds Try.pinned (OpenSpec.ofChange srrLoadsSpec)

/-- ITS FALSE NEIGHBOUR: 'it returns false'. Refute it at one input. -/
def srrLoadsWrong : ChangeSpec := { name := "srrLoads", fn := fun _ => fun
  | [d1, d2, d3, d4, d5] => { results := [.lit (.bool false)], args := [d1, d2, d3, d4, d5] }
  | _ => none }
def SrrLoadsWrongFalsely : Prop := srrLoadsRow.holds Try.pinned (OpenSpec.ofChange srrLoadsWrong)

/-- 'bowlinelaw10.SrrTurns': WHATEVER THE INPUT: true; the input reads as it did. -/
def srrTurnsSpec : ChangeSpec := { name := "srrTurns", fn := fun _ => fun
  | [d1, d2, d3] => { results := [.lit (.bool true)], args := [d1, d2, d3] }
  | _ => none }
def srrTurnsRow : OpenClaim := { program := "ytlbcfkkeoedhdaa", sum := "bc7faef97fbc07a0d2012bec0f12c94f01d74844e9d31c889e03ecca53436960", func := "bowline/bowlinelaw10.SrrTurns", spec := "srrTurns", unfollowed := true, recurses := true, apart := false }
def SrrTurnsSaid : Prop := srrTurnsRow.holds Try.pinned (OpenSpec.ofChange srrTurnsSpec)

/-- ITS FALSE NEIGHBOUR: 'it returns false'. Refute it at one input. -/
def srrTurnsWrong : ChangeSpec := { name := "srrTurns", fn := fun _ => fun
  | [d1, d2, d3] => { results := [.lit (.bool false)], args := [d1, d2, d3] }
  | _ => none }
def SrrTurnsWrongFalsely : Prop := srrTurnsRow.holds Try.pinned (OpenSpec.ofChange srrTurnsWrong)

/-- 'bowlinelaw10.SrrOne': WHATEVER THE INPUT: true; the input reads as it did. -/
def srrOneSpec : ChangeSpec := { name := "srrOne", fn := fun _ => fun
  | [d1, d2, d3] => { results := [.lit (.bool true)], args := [d1, d2, d3] }
  | _ => none }
def srrOneRow : OpenClaim := { program := "ytlbcfkkeoedhdaa", sum := "bc7faef97fbc07a0d2012bec0f12c94f01d74844e9d31c889e03ecca53436960", func := "bowline/bowlinelaw10.SrrOne", spec := "srrOne", unfollowed := true, recurses := true, apart := false }
def SrrOneSaid : Prop := srrOneRow.holds Try.pinned (OpenSpec.ofChange srrOneSpec)

/-- ITS FALSE NEIGHBOUR: 'it returns false'. Refute it at one input. -/
def srrOneWrong : ChangeSpec := { name := "srrOne", fn := fun _ => fun
  | [d1, d2, d3] => { results := [.lit (.bool false)], args := [d1, d2, d3] }
  | _ => none }
def SrrOneWrongFalsely : Prop := srrOneRow.holds Try.pinned (OpenSpec.ofChange srrOneWrong)

/-- 'bowlinelaw10.SrrRounds': WHATEVER THE INPUT: true; the input reads as it did. -/
def srrRoundsSpec : ChangeSpec := { name := "srrRounds", fn := fun _ => fun
  | [d1, d2, d3] => { results := [.lit (.bool true)], args := [d1, d2, d3] }
  | _ => none }
def srrRoundsRow : OpenClaim := { program := "ytlbcfkkeoedhdaa", sum := "bc7faef97fbc07a0d2012bec0f12c94f01d74844e9d31c889e03ecca53436960", func := "bowline/bowlinelaw10.SrrRounds", spec := "srrRounds", unfollowed := true, recurses := true, apart := false }
def SrrRoundsSaid : Prop := srrRoundsRow.holds Try.pinned (OpenSpec.ofChange srrRoundsSpec)

/-- ITS FALSE NEIGHBOUR: 'it returns false'. Refute it at one input. -/
def srrRoundsWrong : ChangeSpec := { name := "srrRounds", fn := fun _ => fun
  | [d1, d2, d3] => { results := [.lit (.bool false)], args := [d1, d2, d3] }
  | _ => none }
def SrrRoundsWrongFalsely : Prop := srrRoundsRow.holds Try.pinned (OpenSpec.ofChange srrRoundsWrong)

/- THE SECOND FORM. 'bulk': how many values and letters a reading holds, each counted each time it is reached (what is shared counts as often as it is met; a slice's spare places count too). A statement '..UptoSaid' is the law's where the arguments, and the package variables that the reading takes, are together of bulk at most 1048576: NARROWER than '..Said'. Prove '..Said' where nothing that the law and all that it calls make is longer than what came in: it says more and counts as full. Else prove '..UptoSaid'. A law counts once. -/
mutual
def uptoBulk {H : Type} : DataW H → Nat
  | .lit (.string bytes) => bytes.length + 1
  | .lit _ => 1
  | .nil => 1
  | .ptr d => uptoBulk d + 1
  | .slice elems spare => uptoBulkAll elems + uptoBulkAll spare + 1
  | .agg parts => uptoBulkAll parts + 1
  | .iface _ d => uptoBulk d + 1
  | .map entries => uptoBulkEntries entries + 1
  | .held _ => 1
def uptoBulkAll {H : Type} : List (DataW H) → Nat
  | [] => 0
  | d :: r => uptoBulk d + uptoBulkAll r
def uptoBulkEntries {H : Type} : List (Lit × DataW H) → Nat
  | [] => 0
  | x :: r => uptoBulkEntry x + uptoBulkEntries r
def uptoBulkEntry {H : Type} : Lit × DataW H → Nat
  | (.string bytes, d) => bytes.length + uptoBulk d + 1
  | (_, d) => uptoBulk d + 1
 end
def uptoSmall : (H : Type) → List (DataW H) → Bool := fun _ ds => decide (uptoBulkAll ds ≤ 1048576)
def OpenSpec.upto (s : _root_.Go.ChangeSpec) : _root_.Go.OpenSpec := { _root_.Go.OpenSpec.ofChange s with cond := some uptoSmall }

/-- 'bowlinelaw10.SrrPlays', WHERE WHAT IT READS IS OF BULK AT MOST 1048576: true; the input reads as it did. -/
def srrPlaysUptoRow : OpenClaim := { program := "ytlbcfkkeoedhdaa", sum := "bc7faef97fbc07a0d2012bec0f12c94f01d74844e9d31c889e03ecca53436960", func := "bowline/bowlinelaw10.SrrPlays", spec := "srrPlays", unfollowed := true, recurses := true, apart := false, narrowed := true }
def SrrPlaysUptoSaid : Prop := srrPlaysUptoRow.holds Try.pinned (OpenSpec.upto srrPlaysSpec)

/-- 'bowlinelaw10.SrrFair', WHERE WHAT IT READS IS OF BULK AT MOST 1048576: true; the input reads as it did. -/
def srrFairUptoRow : OpenClaim := { program := "ytlbcfkkeoedhdaa", sum := "bc7faef97fbc07a0d2012bec0f12c94f01d74844e9d31c889e03ecca53436960", func := "bowline/bowlinelaw10.SrrFair", spec := "srrFair", unfollowed := true, recurses := true, apart := false, narrowed := true }
def SrrFairUptoSaid : Prop := srrFairUptoRow.holds Try.pinned (OpenSpec.upto srrFairSpec)

/-- 'bowlinelaw10.SrrLoads', WHERE WHAT IT READS IS OF BULK AT MOST 1048576: true; the input reads as it did. -/
def srrLoadsUptoRow : OpenClaim := { program := "ytlbcfkkeoedhdaa", sum := "bc7faef97fbc07a0d2012bec0f12c94f01d74844e9d31c889e03ecca53436960", func := "bowline/bowlinelaw10.SrrLoads", spec := "srrLoads", unfollowed := true, recurses := true, apart := false, narrowed := true }
def SrrLoadsUptoSaid : Prop := srrLoadsUptoRow.holds Try.pinned (OpenSpec.upto srrLoadsSpec)

/-- 'bowlinelaw10.SrrTurns', WHERE WHAT IT READS IS OF BULK AT MOST 1048576: true; the input reads as it did. -/
def srrTurnsUptoRow : OpenClaim := { program := "ytlbcfkkeoedhdaa", sum := "bc7faef97fbc07a0d2012bec0f12c94f01d74844e9d31c889e03ecca53436960", func := "bowline/bowlinelaw10.SrrTurns", spec := "srrTurns", unfollowed := true, recurses := true, apart := false, narrowed := true }
def SrrTurnsUptoSaid : Prop := srrTurnsUptoRow.holds Try.pinned (OpenSpec.upto srrTurnsSpec)

/-- 'bowlinelaw10.SrrOne', WHERE WHAT IT READS IS OF BULK AT MOST 1048576: true; the input reads as it did. -/
def srrOneUptoRow : OpenClaim := { program := "ytlbcfkkeoedhdaa", sum := "bc7faef97fbc07a0d2012bec0f12c94f01d74844e9d31c889e03ecca53436960", func := "bowline/bowlinelaw10.SrrOne", spec := "srrOne", unfollowed := true, recurses := true, apart := false, narrowed := true }
def SrrOneUptoSaid : Prop := srrOneUptoRow.holds Try.pinned (OpenSpec.upto srrOneSpec)

/-- 'bowlinelaw10.SrrRounds', WHERE WHAT IT READS IS OF BULK AT MOST 1048576: true; the input reads as it did. -/
def srrRoundsUptoRow : OpenClaim := { program := "ytlbcfkkeoedhdaa", sum := "bc7faef97fbc07a0d2012bec0f12c94f01d74844e9d31c889e03ecca53436960", func := "bowline/bowlinelaw10.SrrRounds", spec := "srrRounds", unfollowed := true, recurses := true, apart := false, narrowed := true }
def SrrRoundsUptoSaid : Prop := srrRoundsUptoRow.holds Try.pinned (OpenSpec.upto srrRoundsSpec)

end Rows
end Go.Proofs.Ytlbcfkkeoedhdaa
