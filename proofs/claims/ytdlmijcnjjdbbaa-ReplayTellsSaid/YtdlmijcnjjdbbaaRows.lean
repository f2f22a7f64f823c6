/-
  No cell of these rows narrows 'for every input' (looked for: loops, veiled, ifaces, maps, wideKeys, modest, calm, conditions, laid).
  DERIVED. THE GIVEN ROWS OF THIS SEAT. 3 by the template 'for every input the law returns true; each argument reads behind the call as it read before'; 0 by the template 'total and deterministic' (their statements: YtdlmijcnjjdbbaaTotals.lean).
  GIVEN WITH THE SEED: the statements are not yours to turn. If you find one false, say at which input.
  Laid BY PROGRAM, IN A SANDBOX (cutbox-rows.mjs): the forced cells as the released guide's own fill.sh prints them over the translation ab2025f8ba3ba01b… (all of the seat's roots in one cut). By AI agents, Wed Nov 11 2026. No macro, syntax, notation, axiom, sorry.
-/
import Derived.Test.YtdlmijcnjjdbbaaChecked
import GoSem.Claim
import GoSem.ClaimJoined
import GoSem.ClaimMapViews
import Derived.JoinedTies
import Derived.KernelRfl
namespace Go.Proofs.Ytdlmijcnjjdbbaa
/- THE CELL 'sum', in the pinned program and in every row, IS THE sha256 OF THE DUMP (.gsa) THAT YtdlmijcnjjdbbaaProg.lean LOADS. Nothing in Lean hashes anything: it is a label: what it is worth is what the hold of that sum in a sandbox is worth. -/
noncomputable def Try.pinned : Pinned := { name := "ytdlmijcnjjdbbaa", sum := "ab2025f8ba3ba01b1c5010ea09005723d9d4f4be35789433c1f7a005f9749f02", checked := Try.checked }
namespace Rows
def none {H : Type} : Left H := { results := [], args := [] }

/-- 'visorlaw29.ReplayTells': WHATEVER THE INPUT: true; the input reads as it did. -/
def replayTellsSpec : ChangeSpec := { name := "replayTells", fn := fun _ => fun
  | [d1, d2, d3] => { results := [.lit (.bool true)], args := [d1, d2, d3] }
  | _ => none }
def replayTellsRow : OpenClaim := { program := "ytdlmijcnjjdbbaa", sum := "ab2025f8ba3ba01b1c5010ea09005723d9d4f4be35789433c1f7a005f9749f02", func := "visor/visorlaw29.ReplayTells", spec := "replayTells", unfollowed := true, recurses := true, plainKeys := false, apart := false }
def ReplayTellsSaid : Prop := replayTellsRow.holds Try.pinned (OpenSpec.ofChange replayTellsSpec)

/-- ITS FALSE NEIGHBOUR: 'it returns false'. Refute it at one input. -/
def replayTellsWrong : ChangeSpec := { name := "replayTells", fn := fun _ => fun
  | [d1, d2, d3] => { results := [.lit (.bool false)], args := [d1, d2, d3] }
  | _ => none }
def ReplayTellsWrongFalsely : Prop := replayTellsRow.holds Try.pinned (OpenSpec.ofChange replayTellsWrong)

/-- 'visorlaw29.ReplayJoins': WHATEVER THE INPUT: true; the input reads as it did. -/
def replayJoinsSpec : ChangeSpec := { name := "replayJoins", fn := fun _ => fun
  | [d1, d2, d3] => { results := [.lit (.bool true)], args := [d1, d2, d3] }
  | _ => none }
def replayJoinsRow : OpenClaim := { program := "ytdlmijcnjjdbbaa", sum := "ab2025f8ba3ba01b1c5010ea09005723d9d4f4be35789433c1f7a005f9749f02", func := "visor/visorlaw29.ReplayJoins", spec := "replayJoins", unfollowed := true, recurses := true, plainKeys := false, apart := false }
def ReplayJoinsSaid : Prop := replayJoinsRow.holds Try.pinned (OpenSpec.ofChange replayJoinsSpec)

/-- ITS FALSE NEIGHBOUR: 'it returns false'. Refute it at one input. -/
def replayJoinsWrong : ChangeSpec := { name := "replayJoins", fn := fun _ => fun
  | [d1, d2, d3] => { results := [.lit (.bool false)], args := [d1, d2, d3] }
  | _ => none }
def ReplayJoinsWrongFalsely : Prop := replayJoinsRow.holds Try.pinned (OpenSpec.ofChange replayJoinsWrong)

/-- 'visorlaw29.ReplayMachine': WHATEVER THE INPUT: true; the input reads as it did. -/
def replayMachineSpec : ChangeSpec := { name := "replayMachine", fn := fun _ => fun
  | [d1, d2, d3] => { results := [.lit (.bool true)], args := [d1, d2, d3] }
  | _ => none }
def replayMachineRow : OpenClaim := { program := "ytdlmijcnjjdbbaa", sum := "ab2025f8ba3ba01b1c5010ea09005723d9d4f4be35789433c1f7a005f9749f02", func := "visor/visorlaw29.ReplayMachine", spec := "replayMachine", inPlace := ["sync/atomic.LoadInt64", "sync/atomic.AddInt64"], unfollowed := true, recurses := true, plainKeys := false, apart := false }
def ReplayMachineSaid : Prop := replayMachineRow.holds Try.pinned (OpenSpec.ofChange replayMachineSpec)

/-- ITS FALSE NEIGHBOUR: 'it returns false'. Refute it at one input. -/
def replayMachineWrong : ChangeSpec := { name := "replayMachine", fn := fun _ => fun
  | [d1, d2, d3] => { results := [.lit (.bool false)], args := [d1, d2, d3] }
  | _ => none }
def ReplayMachineWrongFalsely : Prop := replayMachineRow.holds Try.pinned (OpenSpec.ofChange replayMachineWrong)

/- THE SECOND FORM. 'bulk': how many values and letters a reading holds, each counted each time it is reached (what is shared counts as often as it is met; a slice's spare places count too). A statement '..UptoSaid' is the law's where the arguments, and the package variables that the reading takes, are together of bulk at most 1048576: NARROWER than '..Said'. Prove '..Said' where nothing that the law and all that it calls make is longer than what came in: it says more and counts as full. Else prove '..UptoSaid'. A law counts once. -/
mutual
def uptoBulk {H : Type} : DataW H → Nat
  | .lit (.string bytes) => bytes.length + 1
  | .lit _ => 1
  | .nil => 1
  | .ptr d => uptoBulk d + 1
  | .slice elems spare => uptoBulkAll elems + uptoBulkAll spare + 1
  | .agg parts => uptoBulkAll parts + 1
  | .iface _ d => uptoBulk d + 1
  | .map entries => uptoBulkEntries entries + 1
  | .held _ => 1
def uptoBulkAll {H : Type} : List (DataW H) → Nat
  | [] => 0
  | d :: r => uptoBulk d + uptoBulkAll r
def uptoBulkEntries {H : Type} : List (Lit × DataW H) → Nat
  | [] => 0
  | x :: r => uptoBulkEntry x + uptoBulkEntries r
def uptoBulkEntry {H : Type} : Lit × DataW H → Nat
  | (.string bytes, d) => bytes.length + uptoBulk d + 1
  | (_, d) => uptoBulk d + 1
 end
def uptoSmall : (H : Type) → List (DataW H) → Bool := fun _ ds => decide (uptoBulkAll ds ≤ 1048576)
def OpenSpec.upto (s : _root_.Go.ChangeSpec) : _root_.Go.OpenSpec := { _root_.Go.OpenSpec.ofChange s with cond := some uptoSmall }

/-- 'visorlaw29.ReplayTells', WHERE WHAT IT READS IS OF BULK AT MOST 1048576: true; the input reads as it did. -/
def replayTellsUptoRow : OpenClaim := { program := "ytdlmijcnjjdbbaa", sum := "ab2025f8ba3ba01b1c5010ea09005723d9d4f4be35789433c1f7a005f9749f02", func := "visor/visorlaw29.ReplayTells", spec := "replayTells", unfollowed := true, recurses := true, plainKeys := false, apart := false, narrowed := true }
def ReplayTellsUptoSaid : Prop := replayTellsUptoRow.holds Try.pinned (OpenSpec.upto replayTellsSpec)

/-- 'visorlaw29.ReplayJoins', WHERE WHAT IT READS IS OF BULK AT MOST 1048576: true; the input reads as it did. -/
def replayJoinsUptoRow : OpenClaim := { program := "ytdlmijcnjjdbbaa", sum := "ab2025f8ba3ba01b1c5010ea09005723d9d4f4be35789433c1f7a005f9749f02", func := "visor/visorlaw29.ReplayJoins", spec := "replayJoins", unfollowed := true, recurses := true, plainKeys := false, apart := false, narrowed := true }
def ReplayJoinsUptoSaid : Prop := replayJoinsUptoRow.holds Try.pinned (OpenSpec.upto replayJoinsSpec)

/-- 'visorlaw29.ReplayMachine', WHERE WHAT IT READS IS OF BULK AT MOST 1048576: true; the input reads as it did. -/
def replayMachineUptoRow : OpenClaim := { program := "ytdlmijcnjjdbbaa", sum := "ab2025f8ba3ba01b1c5010ea09005723d9d4f4be35789433c1f7a005f9749f02", func := "visor/visorlaw29.ReplayMachine", spec := "replayMachine", inPlace := ["sync/atomic.LoadInt64", "sync/atomic.AddInt64"], unfollowed := true, recurses := true, plainKeys := false, apart := false, narrowed := true }
def ReplayMachineUptoSaid : Prop := replayMachineUptoRow.holds Try.pinned (OpenSpec.upto replayMachineSpec)

end Rows
end Go.Proofs.Ytdlmijcnjjdbbaa
