/-
  No cell of these rows narrows 'for every input' (looked for: loops, veiled, ifaces, maps, wideKeys, modest, calm, conditions, laid).
  DERIVED. THE GIVEN ROWS OF THIS SEAT. 10 by the template 'for every input the law returns true; each argument reads behind the call as it read before'; 0 by the template 'total and deterministic' (their statements: YtohphljhldcjbaaTotals.lean).
  GIVEN WITH THE SEED: the statements are not yours to turn. If you find one false, say at which input.
  Laid BY PROGRAM, IN A SANDBOX (cutbox-rows.mjs): the forced cells as the released guide's own fill.sh prints them over the translation ff2e166377559afd… (all of the seat's roots in one cut). By AI agents, Wed Nov 11 2026. No macro, syntax, notation, axiom, sorry.
-/
import Derived.Test.YtohphljhldcjbaaChecked
import GoSem.Claim
import GoSem.ClaimJoined
import GoSem.ClaimMapViews
import Derived.JoinedTies
import Derived.KernelRfl
namespace Go.Proofs.Ytohphljhldcjbaa
/- THE CELL 'sum', in the pinned program and in every row, IS THE sha256 OF THE DUMP (.gsa) THAT YtohphljhldcjbaaProg.lean LOADS. Nothing in Lean hashes anything: it is a label: what it is worth is what the hold of that sum in a sandbox is worth. -/
noncomputable def Try.pinned : Pinned := { name := "ytohphljhldcjbaa", sum := "ff2e166377559afd4ef8088ff29aca9673e2562249763757c8726d224a25af6f", checked := Try.checked }
namespace Rows
def none {H : Type} : Left H := { results := [], args := [] }

/-- 'bedrocklaw20.ScoreBuckets': WHATEVER THE INPUT: true; the input reads as it did. -/
def scoreBucketsSpec : ChangeSpec := { name := "scoreBuckets", fn := fun _ => fun
  | [d1, d2, d3] => { results := [.lit (.bool true)], args := [d1, d2, d3] }
  | _ => none }
def scoreBucketsRow : OpenClaim := { program := "ytohphljhldcjbaa", sum := "ff2e166377559afd4ef8088ff29aca9673e2562249763757c8726d224a25af6f", func := "bedrock/bedrocklaw20.ScoreBuckets", spec := "scoreBuckets", plainKeys := false, apart := false }
def ScoreBucketsSaid : Prop := scoreBucketsRow.holds Try.pinned (OpenSpec.ofChange scoreBucketsSpec)

/-- ITS FALSE NEIGHBOUR: 'it returns false'. Refute it at one input. -/
def scoreBucketsWrong : ChangeSpec := { name := "scoreBuckets", fn := fun _ => fun
  | [d1, d2, d3] => { results := [.lit (.bool false)], args := [d1, d2, d3] }
  | _ => none }
def ScoreBucketsWrongFalsely : Prop := scoreBucketsRow.holds Try.pinned (OpenSpec.ofChange scoreBucketsWrong)

/-- 'bedrocklaw20.ScoreBounds': WHATEVER THE INPUT: true; the input reads as it did. -/
def scoreBoundsSpec : ChangeSpec := { name := "scoreBounds", fn := fun _ => fun
  | [d1, d2, d3] => { results := [.lit (.bool true)], args := [d1, d2, d3] }
  | _ => none }
def scoreBoundsRow : OpenClaim := { program := "ytohphljhldcjbaa", sum := "ff2e166377559afd4ef8088ff29aca9673e2562249763757c8726d224a25af6f", func := "bedrock/bedrocklaw20.ScoreBounds", spec := "scoreBounds", plainKeys := false, apart := false }
def ScoreBoundsSaid : Prop := scoreBoundsRow.holds Try.pinned (OpenSpec.ofChange scoreBoundsSpec)

/-- ITS FALSE NEIGHBOUR: 'it returns false'. Refute it at one input. -/
def scoreBoundsWrong : ChangeSpec := { name := "scoreBounds", fn := fun _ => fun
  | [d1, d2, d3] => { results := [.lit (.bool false)], args := [d1, d2, d3] }
  | _ => none }
def ScoreBoundsWrongFalsely : Prop := scoreBoundsRow.holds Try.pinned (OpenSpec.ofChange scoreBoundsWrong)

/-- 'bedrocklaw07.DiskKeeps': WHATEVER THE INPUT: true; the input reads as it did. -/
def diskKeepsSpec : ChangeSpec := { name := "diskKeeps", fn := fun _ => fun
  | [d1, d2] => { results := [.lit (.bool true)], args := [d1, d2] }
  | _ => none }
def diskKeepsRow : OpenClaim := { program := "ytohphljhldcjbaa", sum := "ff2e166377559afd4ef8088ff29aca9673e2562249763757c8726d224a25af6f", func := "bedrock/bedrocklaw07.DiskKeeps", spec := "diskKeeps", inPlace := ["maps.clone"], plainKeys := false, apart := false }
def DiskKeepsSaid : Prop := diskKeepsRow.holds Try.pinned (OpenSpec.ofChange diskKeepsSpec)

/-- ITS FALSE NEIGHBOUR: 'it returns false'. Refute it at one input. -/
def diskKeepsWrong : ChangeSpec := { name := "diskKeeps", fn := fun _ => fun
  | [d1, d2] => { results := [.lit (.bool false)], args := [d1, d2] }
  | _ => none }
def DiskKeepsWrongFalsely : Prop := diskKeepsRow.holds Try.pinned (OpenSpec.ofChange diskKeepsWrong)

/-- 'bedrocklaw07.DiskFull': WHATEVER THE INPUT: true; the input reads as it did. -/
def diskFullSpec : ChangeSpec := { name := "diskFull", fn := fun _ => fun
  | [d] => { results := [.lit (.bool true)], args := [d] }
  | _ => none }
def diskFullRow : OpenClaim := { program := "ytohphljhldcjbaa", sum := "ff2e166377559afd4ef8088ff29aca9673e2562249763757c8726d224a25af6f", func := "bedrock/bedrocklaw07.DiskFull", spec := "diskFull", inPlace := ["maps.clone"], plainKeys := false, apart := false }
def DiskFullSaid : Prop := diskFullRow.holds Try.pinned (OpenSpec.ofChange diskFullSpec)

/-- ITS FALSE NEIGHBOUR: 'it returns false'. Refute it at one input. -/
def diskFullWrong : ChangeSpec := { name := "diskFull", fn := fun _ => fun
  | [d] => { results := [.lit (.bool false)], args := [d] }
  | _ => none }
def DiskFullWrongFalsely : Prop := diskFullRow.holds Try.pinned (OpenSpec.ofChange diskFullWrong)

/-- 'bedrocklaw20.ScoreBytes': WHATEVER THE INPUT: true; the input reads as it did. -/
def scoreBytesSpec : ChangeSpec := { name := "scoreBytes", fn := fun _ => fun
  | [d1, d2] => { results := [.lit (.bool true)], args := [d1, d2] }
  | _ => none }
def scoreBytesRow : OpenClaim := { program := "ytohphljhldcjbaa", sum := "ff2e166377559afd4ef8088ff29aca9673e2562249763757c8726d224a25af6f", func := "bedrock/bedrocklaw20.ScoreBytes", spec := "scoreBytes", inPlace := ["internal/abi.NoEscape"], plainKeys := false, apart := false }
def ScoreBytesSaid : Prop := scoreBytesRow.holds Try.pinned (OpenSpec.ofChange scoreBytesSpec)

/-- ITS FALSE NEIGHBOUR: 'it returns false'. Refute it at one input. -/
def scoreBytesWrong : ChangeSpec := { name := "scoreBytes", fn := fun _ => fun
  | [d1, d2] => { results := [.lit (.bool false)], args := [d1, d2] }
  | _ => none }
def ScoreBytesWrongFalsely : Prop := scoreBytesRow.holds Try.pinned (OpenSpec.ofChange scoreBytesWrong)

/-- 'bedrocklaw20.ScorePlays': WHATEVER THE INPUT: true; the input reads as it did. -/
def scorePlaysSpec : ChangeSpec := { name := "scorePlays", fn := fun _ => fun
  | [d] => { results := [.lit (.bool true)], args := [d] }
  | _ => none }
def scorePlaysRow : OpenClaim := { program := "ytohphljhldcjbaa", sum := "ff2e166377559afd4ef8088ff29aca9673e2562249763757c8726d224a25af6f", func := "bedrock/bedrocklaw20.ScorePlays", spec := "scorePlays", inPlace := ["maps.clone"], unfollowed := true, recurses := true, plainKeys := false, apart := false }
def ScorePlaysSaid : Prop := scorePlaysRow.holds Try.pinned (OpenSpec.ofChange scorePlaysSpec)

/-- ITS FALSE NEIGHBOUR: 'it returns false'. Refute it at one input. -/
def scorePlaysWrong : ChangeSpec := { name := "scorePlays", fn := fun _ => fun
  | [d] => { results := [.lit (.bool false)], args := [d] }
  | _ => none }
def ScorePlaysWrongFalsely : Prop := scorePlaysRow.holds Try.pinned (OpenSpec.ofChange scorePlaysWrong)

/-- 'bedrocklaw25.RelayAsks': WHATEVER THE INPUT: true; the input reads as it did. -/
def relayAsksSpec : ChangeSpec := { name := "relayAsks", fn := fun _ => fun
  | [d] => { results := [.lit (.bool true)], args := [d] }
  | _ => none }
def relayAsksRow : OpenClaim := { program := "ytohphljhldcjbaa", sum := "ff2e166377559afd4ef8088ff29aca9673e2562249763757c8726d224a25af6f", func := "bedrock/bedrocklaw25.RelayAsks", spec := "relayAsks", unfollowed := true, recurses := true, plainKeys := false, apart := false }
def RelayAsksSaid : Prop := relayAsksRow.holds Try.pinned (OpenSpec.ofChange relayAsksSpec)

/-- ITS FALSE NEIGHBOUR: 'it returns false'. Refute it at one input. -/
def relayAsksWrong : ChangeSpec := { name := "relayAsks", fn := fun _ => fun
  | [d] => { results := [.lit (.bool false)], args := [d] }
  | _ => none }
def RelayAsksWrongFalsely : Prop := relayAsksRow.holds Try.pinned (OpenSpec.ofChange relayAsksWrong)

/-- 'bedrocklaw20.ScoreNil': WHATEVER THE INPUT: true; the input reads as it did. -/
def scoreNilSpec : ChangeSpec := { name := "scoreNil", fn := fun _ => fun
  | [d] => { results := [.lit (.bool true)], args := [d] }
  | _ => none }
def scoreNilRow : OpenClaim := { program := "ytohphljhldcjbaa", sum := "ff2e166377559afd4ef8088ff29aca9673e2562249763757c8726d224a25af6f", func := "bedrock/bedrocklaw20.ScoreNil", spec := "scoreNil", inPlace := ["maps.clone"], unfollowed := true, recurses := true, plainKeys := false, apart := false }
def ScoreNilSaid : Prop := scoreNilRow.holds Try.pinned (OpenSpec.ofChange scoreNilSpec)

/-- ITS FALSE NEIGHBOUR: 'it returns false'. Refute it at one input. -/
def scoreNilWrong : ChangeSpec := { name := "scoreNil", fn := fun _ => fun
  | [d] => { results := [.lit (.bool false)], args := [d] }
  | _ => none }
def ScoreNilWrongFalsely : Prop := scoreNilRow.holds Try.pinned (OpenSpec.ofChange scoreNilWrong)

/-- 'bedrocklaw07.DiskPlays': WHATEVER THE INPUT: true; the input reads as it did. -/
def diskPlaysSpec : ChangeSpec := { name := "diskPlays", fn := fun _ => fun
  | [d] => { results := [.lit (.bool true)], args := [d] }
  | _ => none }
def diskPlaysRow : OpenClaim := { program := "ytohphljhldcjbaa", sum := "ff2e166377559afd4ef8088ff29aca9673e2562249763757c8726d224a25af6f", func := "bedrock/bedrocklaw07.DiskPlays", spec := "diskPlays", inPlace := ["maps.clone"], unfollowed := true, recurses := true, plainKeys := false, apart := false }
def DiskPlaysSaid : Prop := diskPlaysRow.holds Try.pinned (OpenSpec.ofChange diskPlaysSpec)

/-- ITS FALSE NEIGHBOUR: 'it returns false'. Refute it at one input. -/
def diskPlaysWrong : ChangeSpec := { name := "diskPlays", fn := fun _ => fun
  | [d] => { results := [.lit (.bool false)], args := [d] }
  | _ => none }
def DiskPlaysWrongFalsely : Prop := diskPlaysRow.holds Try.pinned (OpenSpec.ofChange diskPlaysWrong)

/-- 'bedrocklaw07.DiskNil': WHATEVER THE INPUT: true; the input reads as it did. -/
def diskNilSpec : ChangeSpec := { name := "diskNil", fn := fun _ => fun
  | [d] => { results := [.lit (.bool true)], args := [d] }
  | _ => none }
def diskNilRow : OpenClaim := { program := "ytohphljhldcjbaa", sum := "ff2e166377559afd4ef8088ff29aca9673e2562249763757c8726d224a25af6f", func := "bedrock/bedrocklaw07.DiskNil", spec := "diskNil", inPlace := ["maps.clone"], unfollowed := true, recurses := true, plainKeys := false, apart := false }
def DiskNilSaid : Prop := diskNilRow.holds Try.pinned (OpenSpec.ofChange diskNilSpec)

/-- ITS FALSE NEIGHBOUR: 'it returns false'. Refute it at one input. -/
def diskNilWrong : ChangeSpec := { name := "diskNil", fn := fun _ => fun
  | [d] => { results := [.lit (.bool false)], args := [d] }
  | _ => none }
def DiskNilWrongFalsely : Prop := diskNilRow.holds Try.pinned (OpenSpec.ofChange diskNilWrong)

/- THE SECOND FORM. 'bulk': how many values and letters a reading holds, each counted each time it is reached (what is shared counts as often as it is met; a slice's spare places count too). A statement '..UptoSaid' is the law's where the arguments, and the package variables that the reading takes, are together of bulk at most 1048576: NARROWER than '..Said'. Prove '..Said' where nothing that the law and all that it calls make is longer than what came in: it says more and counts as full. Else prove '..UptoSaid'. A law counts once. -/
mutual
def uptoBulk {H : Type} : DataW H → Nat
  | .lit (.string bytes) => bytes.length + 1
  | .lit _ => 1
  | .nil => 1
  | .ptr d => uptoBulk d + 1
  | .slice elems spare => uptoBulkAll elems + uptoBulkAll spare + 1
  | .agg parts => uptoBulkAll parts + 1
  | .iface _ d => uptoBulk d + 1
  | .map entries => uptoBulkEntries entries + 1
  | .held _ => 1
def uptoBulkAll {H : Type} : List (DataW H) → Nat
  | [] => 0
  | d :: r => uptoBulk d + uptoBulkAll r
def uptoBulkEntries {H : Type} : List (Lit × DataW H) → Nat
  | [] => 0
  | x :: r => uptoBulkEntry x + uptoBulkEntries r
def uptoBulkEntry {H : Type} : Lit × DataW H → Nat
  | (.string bytes, d) => bytes.length + uptoBulk d + 1
  | (_, d) => uptoBulk d + 1
 end
def uptoSmall : (H : Type) → List (DataW H) → Bool := fun _ ds => decide (uptoBulkAll ds ≤ 1048576)
def OpenSpec.upto (s : _root_.Go.ChangeSpec) : _root_.Go.OpenSpec := { _root_.Go.OpenSpec.ofChange s with cond := some uptoSmall }

/-- 'bedrocklaw20.ScoreBuckets', WHERE WHAT IT READS IS OF BULK AT MOST 1048576: true; the input reads as it did. -/
def scoreBucketsUptoRow : OpenClaim := { program := "ytohphljhldcjbaa", sum := "ff2e166377559afd4ef8088ff29aca9673e2562249763757c8726d224a25af6f", func := "bedrock/bedrocklaw20.ScoreBuckets", spec := "scoreBuckets", plainKeys := false, apart := false, narrowed := true }
def ScoreBucketsUptoSaid : Prop := scoreBucketsUptoRow.holds Try.pinned (OpenSpec.upto scoreBucketsSpec)

/-- 'bedrocklaw20.ScoreBounds', WHERE WHAT IT READS IS OF BULK AT MOST 1048576: true; the input reads as it did. -/
def scoreBoundsUptoRow : OpenClaim := { program := "ytohphljhldcjbaa", sum := "ff2e166377559afd4ef8088ff29aca9673e2562249763757c8726d224a25af6f", func := "bedrock/bedrocklaw20.ScoreBounds", spec := "scoreBounds", plainKeys := false, apart := false, narrowed := true }
def ScoreBoundsUptoSaid : Prop := scoreBoundsUptoRow.holds Try.pinned (OpenSpec.upto scoreBoundsSpec)

/-- 'bedrocklaw07.DiskKeeps', WHERE WHAT IT READS IS OF BULK AT MOST 1048576: true; the input reads as it did. -/
def diskKeepsUptoRow : OpenClaim := { program := "ytohphljhldcjbaa", sum := "ff2e166377559afd4ef8088ff29aca9673e2562249763757c8726d224a25af6f", func := "bedrock/bedrocklaw07.DiskKeeps", spec := "diskKeeps", inPlace := ["maps.clone"], plainKeys := false, apart := false, narrowed := true }
def DiskKeepsUptoSaid : Prop := diskKeepsUptoRow.holds Try.pinned (OpenSpec.upto diskKeepsSpec)

/-- 'bedrocklaw07.DiskFull', WHERE WHAT IT READS IS OF BULK AT MOST 1048576: true; the input reads as it did. -/
def diskFullUptoRow : OpenClaim := { program := "ytohphljhldcjbaa", sum := "ff2e166377559afd4ef8088ff29aca9673e2562249763757c8726d224a25af6f", func := "bedrock/bedrocklaw07.DiskFull", spec := "diskFull", inPlace := ["maps.clone"], plainKeys := false, apart := false, narrowed := true }
def DiskFullUptoSaid : Prop := diskFullUptoRow.holds Try.pinned (OpenSpec.upto diskFullSpec)

/-- 'bedrocklaw20.ScoreBytes', WHERE WHAT IT READS IS OF BULK AT MOST 1048576: true; the input reads as it did. -/
def scoreBytesUptoRow : OpenClaim := { program := "ytohphljhldcjbaa", sum := "ff2e166377559afd4ef8088ff29aca9673e2562249763757c8726d224a25af6f", func := "bedrock/bedrocklaw20.ScoreBytes", spec := "scoreBytes", inPlace := ["internal/abi.NoEscape"], plainKeys := false, apart := false, narrowed := true }
def ScoreBytesUptoSaid : Prop := scoreBytesUptoRow.holds Try.pinned (OpenSpec.upto scoreBytesSpec)

/-- 'bedrocklaw20.ScorePlays', WHERE WHAT IT READS IS OF BULK AT MOST 1048576: true; the input reads as it did. -/
def scorePlaysUptoRow : OpenClaim := { program := "ytohphljhldcjbaa", sum := "ff2e166377559afd4ef8088ff29aca9673e2562249763757c8726d224a25af6f", func := "bedrock/bedrocklaw20.ScorePlays", spec := "scorePlays", inPlace := ["maps.clone"], unfollowed := true, recurses := true, plainKeys := false, apart := false, narrowed := true }
def ScorePlaysUptoSaid : Prop := scorePlaysUptoRow.holds Try.pinned (OpenSpec.upto scorePlaysSpec)

/-- 'bedrocklaw25.RelayAsks', WHERE WHAT IT READS IS OF BULK AT MOST 1048576: true; the input reads as it did. -/
def relayAsksUptoRow : OpenClaim := { program := "ytohphljhldcjbaa", sum := "ff2e166377559afd4ef8088ff29aca9673e2562249763757c8726d224a25af6f", func := "bedrock/bedrocklaw25.RelayAsks", spec := "relayAsks", unfollowed := true, recurses := true, plainKeys := false, apart := false, narrowed := true }
def RelayAsksUptoSaid : Prop := relayAsksUptoRow.holds Try.pinned (OpenSpec.upto relayAsksSpec)

/-- 'bedrocklaw20.ScoreNil', WHERE WHAT IT READS IS OF BULK AT MOST 1048576: true; the input reads as it did. -/
def scoreNilUptoRow : OpenClaim := { program := "ytohphljhldcjbaa", sum := "ff2e166377559afd4ef8088ff29aca9673e2562249763757c8726d224a25af6f", func := "bedrock/bedrocklaw20.ScoreNil", spec := "scoreNil", inPlace := ["maps.clone"], unfollowed := true, recurses := true, plainKeys := false, apart := false, narrowed := true }
def ScoreNilUptoSaid : Prop := scoreNilUptoRow.holds Try.pinned (OpenSpec.upto scoreNilSpec)

/-- 'bedrocklaw07.DiskPlays', WHERE WHAT IT READS IS OF BULK AT MOST 1048576: true; the input reads as it did. -/
def diskPlaysUptoRow : OpenClaim := { program := "ytohphljhldcjbaa", sum := "ff2e166377559afd4ef8088ff29aca9673e2562249763757c8726d224a25af6f", func := "bedrock/bedrocklaw07.DiskPlays", spec := "diskPlays", inPlace := ["maps.clone"], unfollowed := true, recurses := true, plainKeys := false, apart := false, narrowed := true }
def DiskPlaysUptoSaid : Prop := diskPlaysUptoRow.holds Try.pinned (OpenSpec.upto diskPlaysSpec)

/-- 'bedrocklaw07.DiskNil', WHERE WHAT IT READS IS OF BULK AT MOST 1048576: true; the input reads as it did. -/
def diskNilUptoRow : OpenClaim := { program := "ytohphljhldcjbaa", sum := "ff2e166377559afd4ef8088ff29aca9673e2562249763757c8726d224a25af6f", func := "bedrock/bedrocklaw07.DiskNil", spec := "diskNil", inPlace := ["maps.clone"], unfollowed := true, recurses := true, plainKeys := false, apart := false, narrowed := true }
def DiskNilUptoSaid : Prop := diskNilUptoRow.holds Try.pinned (OpenSpec.upto diskNilSpec)

end Rows
end Go.Proofs.Ytohphljhldcjbaa
