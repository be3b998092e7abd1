/-
  No cell of these rows narrows 'for every input' (looked for: loops, veiled, ifaces, maps, wideKeys, modest, calm, conditions, laid).
  DERIVED. THE GIVEN ROWS OF THIS SEAT. 23 by the template 'for every input the law returns true; each argument reads behind the call as it read before'; 0 by the template 'total and deterministic' (their statements: YtpojdgeginigjaaTotals.lean).
  GIVEN WITH THE SEED: the statements are not yours to turn. If you find one false, say at which input.
  Laid BY PROGRAM, IN A SANDBOX (cutbox-rows.mjs): the forced cells as the released guide's own fill.sh prints them over the translation fd500b1215308f35… (all of the seat's roots in one cut). By AI agents, Wed Nov 11 2026. No macro, syntax, notation, axiom, sorry.
-/
import Derived.Test.YtpojdgeginigjaaChecked
import GoSem.Claim
import GoSem.ClaimJoined
import GoSem.ClaimMapViews
import Derived.JoinedTies
import Derived.KernelRfl
namespace Go.Proofs.Ytpojdgeginigjaa
/- THE CELL 'sum', in the pinned program and in every row, IS THE sha256 OF THE DUMP (.gsa) THAT YtpojdgeginigjaaProg.lean LOADS. Nothing in Lean hashes anything: it is a label: what it is worth is what the hold of that sum in a sandbox is worth. -/
noncomputable def Try.pinned : Pinned := { name := "ytpojdgeginigjaa", sum := "fd500b1215308f35e904787f4e728982cdf7996ec99997a97fd4b430ee0203ab", checked := Try.checked }
namespace Rows
def none {H : Type} : Left H := { results := [], args := [] }

/-- 'acequialaw01.NetFirst': WHATEVER THE INPUT: true; the input reads as it did. -/
def netFirstSpec : ChangeSpec := { name := "netFirst", fn := fun _ => fun
  | [d] => { results := [.lit (.bool true)], args := [d] }
  | _ => none }
def netFirstRow : OpenClaim := { program := "ytpojdgeginigjaa", sum := "fd500b1215308f35e904787f4e728982cdf7996ec99997a97fd4b430ee0203ab", func := "acequia/acequialaw01.NetFirst", spec := "netFirst", unfollowed := true, recurses := true, plainKeys := false, apart := false }
def NetFirstSaid : Prop := netFirstRow.holds Try.pinned (OpenSpec.ofChange netFirstSpec)

/-- ITS FALSE NEIGHBOUR: 'it returns false'. Refute it at one input. -/
def netFirstWrong : ChangeSpec := { name := "netFirst", fn := fun _ => fun
  | [d] => { results := [.lit (.bool false)], args := [d] }
  | _ => none }
def NetFirstWrongFalsely : Prop := netFirstRow.holds Try.pinned (OpenSpec.ofChange netFirstWrong)

/-- 'acequialaw01.NetSums': WHATEVER THE INPUT: true; the input reads as it did. -/
def netSumsSpec : ChangeSpec := { name := "netSums", fn := fun _ => fun
  | [d1, d2, d3] => { results := [.lit (.bool true)], args := [d1, d2, d3] }
  | _ => none }
def netSumsRow : OpenClaim := { program := "ytpojdgeginigjaa", sum := "fd500b1215308f35e904787f4e728982cdf7996ec99997a97fd4b430ee0203ab", func := "acequia/acequialaw01.NetSums", spec := "netSums", unfollowed := true, recurses := true, plainKeys := false, apart := false }
def NetSumsSaid : Prop := netSumsRow.holds Try.pinned (OpenSpec.ofChange netSumsSpec)

/-- ITS FALSE NEIGHBOUR: 'it returns false'. Refute it at one input. -/
def netSumsWrong : ChangeSpec := { name := "netSums", fn := fun _ => fun
  | [d1, d2, d3] => { results := [.lit (.bool false)], args := [d1, d2, d3] }
  | _ => none }
def NetSumsWrongFalsely : Prop := netSumsRow.holds Try.pinned (OpenSpec.ofChange netSumsWrong)

/-- 'acequialaw24.CheckBest': WHATEVER THE INPUT: true; the input reads as it did. -/
def checkBestSpec : ChangeSpec := { name := "checkBest", fn := fun _ => fun
  | [d1, d2, d3, d4] => { results := [.lit (.bool true)], args := [d1, d2, d3, d4] }
  | _ => none }
def checkBestRow : OpenClaim := { program := "ytpojdgeginigjaa", sum := "fd500b1215308f35e904787f4e728982cdf7996ec99997a97fd4b430ee0203ab", func := "acequia/acequialaw24.CheckBest", spec := "checkBest", unfollowed := true, recurses := true, plainKeys := false, apart := false }
def CheckBestSaid : Prop := checkBestRow.holds Try.pinned (OpenSpec.ofChange checkBestSpec)

/-- ITS FALSE NEIGHBOUR: 'it returns false'. Refute it at one input. -/
def checkBestWrong : ChangeSpec := { name := "checkBest", fn := fun _ => fun
  | [d1, d2, d3, d4] => { results := [.lit (.bool false)], args := [d1, d2, d3, d4] }
  | _ => none }
def CheckBestWrongFalsely : Prop := checkBestRow.holds Try.pinned (OpenSpec.ofChange checkBestWrong)

/-- 'acequialaw01.NetJoins': WHATEVER THE INPUT: true; the input reads as it did. -/
def netJoinsSpec : ChangeSpec := { name := "netJoins", fn := fun _ => fun
  | [d] => { results := [.lit (.bool true)], args := [d] }
  | _ => none }
def netJoinsRow : OpenClaim := { program := "ytpojdgeginigjaa", sum := "fd500b1215308f35e904787f4e728982cdf7996ec99997a97fd4b430ee0203ab", func := "acequia/acequialaw01.NetJoins", spec := "netJoins", unfollowed := true, recurses := true, plainKeys := false, apart := false }
def NetJoinsSaid : Prop := netJoinsRow.holds Try.pinned (OpenSpec.ofChange netJoinsSpec)

/-- ITS FALSE NEIGHBOUR: 'it returns false'. Refute it at one input. -/
def netJoinsWrong : ChangeSpec := { name := "netJoins", fn := fun _ => fun
  | [d] => { results := [.lit (.bool false)], args := [d] }
  | _ => none }
def NetJoinsWrongFalsely : Prop := netJoinsRow.holds Try.pinned (OpenSpec.ofChange netJoinsWrong)

/-- 'acequialaw01.NetCopies': WHATEVER THE INPUT: true; the input reads as it did. -/
def netCopiesSpec : ChangeSpec := { name := "netCopies", fn := fun _ => fun
  | [d1, d2, d3] => { results := [.lit (.bool true)], args := [d1, d2, d3] }
  | _ => none }
def netCopiesRow : OpenClaim := { program := "ytpojdgeginigjaa", sum := "fd500b1215308f35e904787f4e728982cdf7996ec99997a97fd4b430ee0203ab", func := "acequia/acequialaw01.NetCopies", spec := "netCopies", unfollowed := true, recurses := true, plainKeys := false, apart := false }
def NetCopiesSaid : Prop := netCopiesRow.holds Try.pinned (OpenSpec.ofChange netCopiesSpec)

/-- ITS FALSE NEIGHBOUR: 'it returns false'. Refute it at one input. -/
def netCopiesWrong : ChangeSpec := { name := "netCopies", fn := fun _ => fun
  | [d1, d2, d3] => { results := [.lit (.bool false)], args := [d1, d2, d3] }
  | _ => none }
def NetCopiesWrongFalsely : Prop := netCopiesRow.holds Try.pinned (OpenSpec.ofChange netCopiesWrong)

/-- 'acequialaw24.CheckGreatest': WHATEVER THE INPUT: true; the input reads as it did. -/
def checkGreatestSpec : ChangeSpec := { name := "checkGreatest", fn := fun _ => fun
  | [d] => { results := [.lit (.bool true)], args := [d] }
  | _ => none }
def checkGreatestRow : OpenClaim := { program := "ytpojdgeginigjaa", sum := "fd500b1215308f35e904787f4e728982cdf7996ec99997a97fd4b430ee0203ab", func := "acequia/acequialaw24.CheckGreatest", spec := "checkGreatest", unfollowed := true, recurses := true, plainKeys := false, apart := false }
def CheckGreatestSaid : Prop := checkGreatestRow.holds Try.pinned (OpenSpec.ofChange checkGreatestSpec)

/-- ITS FALSE NEIGHBOUR: 'it returns false'. Refute it at one input. -/
def checkGreatestWrong : ChangeSpec := { name := "checkGreatest", fn := fun _ => fun
  | [d] => { results := [.lit (.bool false)], args := [d] }
  | _ => none }
def CheckGreatestWrongFalsely : Prop := checkGreatestRow.holds Try.pinned (OpenSpec.ofChange checkGreatestWrong)

/-- 'acequialaw01.NetTurns': WHATEVER THE INPUT: true; the input reads as it did. -/
def netTurnsSpec : ChangeSpec := { name := "netTurns", fn := fun _ => fun
  | [d1, d2] => { results := [.lit (.bool true)], args := [d1, d2] }
  | _ => none }
def netTurnsRow : OpenClaim := { program := "ytpojdgeginigjaa", sum := "fd500b1215308f35e904787f4e728982cdf7996ec99997a97fd4b430ee0203ab", func := "acequia/acequialaw01.NetTurns", spec := "netTurns", unfollowed := true, recurses := true, plainKeys := false, apart := false }
def NetTurnsSaid : Prop := netTurnsRow.holds Try.pinned (OpenSpec.ofChange netTurnsSpec)

/-- ITS FALSE NEIGHBOUR: 'it returns false'. Refute it at one input. -/
def netTurnsWrong : ChangeSpec := { name := "netTurns", fn := fun _ => fun
  | [d1, d2] => { results := [.lit (.bool false)], args := [d1, d2] }
  | _ => none }
def NetTurnsWrongFalsely : Prop := netTurnsRow.holds Try.pinned (OpenSpec.ofChange netTurnsWrong)

/-- 'acequialaw02.CsrTurns': WHATEVER THE INPUT: true; the input reads as it did. -/
def csrTurnsSpec : ChangeSpec := { name := "csrTurns", fn := fun _ => fun
  | [d1, d2] => { results := [.lit (.bool true)], args := [d1, d2] }
  | _ => none }
def csrTurnsRow : OpenClaim := { program := "ytpojdgeginigjaa", sum := "fd500b1215308f35e904787f4e728982cdf7996ec99997a97fd4b430ee0203ab", func := "acequia/acequialaw02.CsrTurns", spec := "csrTurns", unfollowed := true, recurses := true, plainKeys := false, apart := false }
def CsrTurnsSaid : Prop := csrTurnsRow.holds Try.pinned (OpenSpec.ofChange csrTurnsSpec)

/-- ITS FALSE NEIGHBOUR: 'it returns false'. Refute it at one input. -/
def csrTurnsWrong : ChangeSpec := { name := "csrTurns", fn := fun _ => fun
  | [d1, d2] => { results := [.lit (.bool false)], args := [d1, d2] }
  | _ => none }
def CsrTurnsWrongFalsely : Prop := csrTurnsRow.holds Try.pinned (OpenSpec.ofChange csrTurnsWrong)

/-- 'acequialaw02.CsrBack': WHATEVER THE INPUT: true; the input reads as it did. -/
def csrBackSpec : ChangeSpec := { name := "csrBack", fn := fun _ => fun
  | [d1, d2, d3, d4] => { results := [.lit (.bool true)], args := [d1, d2, d3, d4] }
  | _ => none }
def csrBackRow : OpenClaim := { program := "ytpojdgeginigjaa", sum := "fd500b1215308f35e904787f4e728982cdf7996ec99997a97fd4b430ee0203ab", func := "acequia/acequialaw02.CsrBack", spec := "csrBack", unfollowed := true, recurses := true, plainKeys := false, apart := false }
def CsrBackSaid : Prop := csrBackRow.holds Try.pinned (OpenSpec.ofChange csrBackSpec)

/-- ITS FALSE NEIGHBOUR: 'it returns false'. Refute it at one input. -/
def csrBackWrong : ChangeSpec := { name := "csrBack", fn := fun _ => fun
  | [d1, d2, d3, d4] => { results := [.lit (.bool false)], args := [d1, d2, d3, d4] }
  | _ => none }
def CsrBackWrongFalsely : Prop := csrBackRow.holds Try.pinned (OpenSpec.ofChange csrBackWrong)

/-- 'acequialaw02.CsrPairs': WHATEVER THE INPUT: true; the input reads as it did. -/
def csrPairsSpec : ChangeSpec := { name := "csrPairs", fn := fun _ => fun
  | [d] => { results := [.lit (.bool true)], args := [d] }
  | _ => none }
def csrPairsRow : OpenClaim := { program := "ytpojdgeginigjaa", sum := "fd500b1215308f35e904787f4e728982cdf7996ec99997a97fd4b430ee0203ab", func := "acequia/acequialaw02.CsrPairs", spec := "csrPairs", unfollowed := true, recurses := true, plainKeys := false, apart := false }
def CsrPairsSaid : Prop := csrPairsRow.holds Try.pinned (OpenSpec.ofChange csrPairsSpec)

/-- ITS FALSE NEIGHBOUR: 'it returns false'. Refute it at one input. -/
def csrPairsWrong : ChangeSpec := { name := "csrPairs", fn := fun _ => fun
  | [d] => { results := [.lit (.bool false)], args := [d] }
  | _ => none }
def CsrPairsWrongFalsely : Prop := csrPairsRow.holds Try.pinned (OpenSpec.ofChange csrPairsWrong)

/-- 'acequialaw03.FlowSums': WHATEVER THE INPUT: true; the input reads as it did. -/
def flowSumsSpec : ChangeSpec := { name := "flowSums", fn := fun _ => fun
  | [d1, d2] => { results := [.lit (.bool true)], args := [d1, d2] }
  | _ => none }
def flowSumsRow : OpenClaim := { program := "ytpojdgeginigjaa", sum := "fd500b1215308f35e904787f4e728982cdf7996ec99997a97fd4b430ee0203ab", func := "acequia/acequialaw03.FlowSums", spec := "flowSums", unfollowed := true, recurses := true, plainKeys := false, apart := false }
def FlowSumsSaid : Prop := flowSumsRow.holds Try.pinned (OpenSpec.ofChange flowSumsSpec)

/-- ITS FALSE NEIGHBOUR: 'it returns false'. Refute it at one input. -/
def flowSumsWrong : ChangeSpec := { name := "flowSums", fn := fun _ => fun
  | [d1, d2] => { results := [.lit (.bool false)], args := [d1, d2] }
  | _ => none }
def FlowSumsWrongFalsely : Prop := flowSumsRow.holds Try.pinned (OpenSpec.ofChange flowSumsWrong)

/-- 'acequialaw03.FlowSends': WHATEVER THE INPUT: true; the input reads as it did. -/
def flowSendsSpec : ChangeSpec := { name := "flowSends", fn := fun _ => fun
  | [d1, d2, d3, d4, d5] => { results := [.lit (.bool true)], args := [d1, d2, d3, d4, d5] }
  | _ => none }
def flowSendsRow : OpenClaim := { program := "ytpojdgeginigjaa", sum := "fd500b1215308f35e904787f4e728982cdf7996ec99997a97fd4b430ee0203ab", func := "acequia/acequialaw03.FlowSends", spec := "flowSends", unfollowed := true, recurses := true, plainKeys := false, apart := false }
def FlowSendsSaid : Prop := flowSendsRow.holds Try.pinned (OpenSpec.ofChange flowSendsSpec)

/-- ITS FALSE NEIGHBOUR: 'it returns false'. Refute it at one input. -/
def flowSendsWrong : ChangeSpec := { name := "flowSends", fn := fun _ => fun
  | [d1, d2, d3, d4, d5] => { results := [.lit (.bool false)], args := [d1, d2, d3, d4, d5] }
  | _ => none }
def FlowSendsWrongFalsely : Prop := flowSendsRow.holds Try.pinned (OpenSpec.ofChange flowSendsWrong)

/-- 'acequialaw03.FlowWays': WHATEVER THE INPUT: true; the input reads as it did. -/
def flowWaysSpec : ChangeSpec := { name := "flowWays", fn := fun _ => fun
  | [d1, d2, d3, d4, d5] => { results := [.lit (.bool true)], args := [d1, d2, d3, d4, d5] }
  | _ => none }
def flowWaysRow : OpenClaim := { program := "ytpojdgeginigjaa", sum := "fd500b1215308f35e904787f4e728982cdf7996ec99997a97fd4b430ee0203ab", func := "acequia/acequialaw03.FlowWays", spec := "flowWays", unfollowed := true, recurses := true, plainKeys := false, apart := false }
def FlowWaysSaid : Prop := flowWaysRow.holds Try.pinned (OpenSpec.ofChange flowWaysSpec)

/-- ITS FALSE NEIGHBOUR: 'it returns false'. Refute it at one input. -/
def flowWaysWrong : ChangeSpec := { name := "flowWays", fn := fun _ => fun
  | [d1, d2, d3, d4, d5] => { results := [.lit (.bool false)], args := [d1, d2, d3, d4, d5] }
  | _ => none }
def FlowWaysWrongFalsely : Prop := flowWaysRow.holds Try.pinned (OpenSpec.ofChange flowWaysWrong)

/-- 'acequialaw03.FlowAdds': WHATEVER THE INPUT: true; the input reads as it did. -/
def flowAddsSpec : ChangeSpec := { name := "flowAdds", fn := fun _ => fun
  | [d1, d2, d3] => { results := [.lit (.bool true)], args := [d1, d2, d3] }
  | _ => none }
def flowAddsRow : OpenClaim := { program := "ytpojdgeginigjaa", sum := "fd500b1215308f35e904787f4e728982cdf7996ec99997a97fd4b430ee0203ab", func := "acequia/acequialaw03.FlowAdds", spec := "flowAdds", unfollowed := true, recurses := true, plainKeys := false, apart := false }
def FlowAddsSaid : Prop := flowAddsRow.holds Try.pinned (OpenSpec.ofChange flowAddsSpec)

/-- ITS FALSE NEIGHBOUR: 'it returns false'. Refute it at one input. -/
def flowAddsWrong : ChangeSpec := { name := "flowAdds", fn := fun _ => fun
  | [d1, d2, d3] => { results := [.lit (.bool false)], args := [d1, d2, d3] }
  | _ => none }
def FlowAddsWrongFalsely : Prop := flowAddsRow.holds Try.pinned (OpenSpec.ofChange flowAddsWrong)

/-- 'acequialaw03.FlowTurns': WHATEVER THE INPUT: true; the input reads as it did. -/
def flowTurnsSpec : ChangeSpec := { name := "flowTurns", fn := fun _ => fun
  | [d1, d2, d3] => { results := [.lit (.bool true)], args := [d1, d2, d3] }
  | _ => none }
def flowTurnsRow : OpenClaim := { program := "ytpojdgeginigjaa", sum := "fd500b1215308f35e904787f4e728982cdf7996ec99997a97fd4b430ee0203ab", func := "acequia/acequialaw03.FlowTurns", spec := "flowTurns", unfollowed := true, recurses := true, plainKeys := false, apart := false }
def FlowTurnsSaid : Prop := flowTurnsRow.holds Try.pinned (OpenSpec.ofChange flowTurnsSpec)

/-- ITS FALSE NEIGHBOUR: 'it returns false'. Refute it at one input. -/
def flowTurnsWrong : ChangeSpec := { name := "flowTurns", fn := fun _ => fun
  | [d1, d2, d3] => { results := [.lit (.bool false)], args := [d1, d2, d3] }
  | _ => none }
def FlowTurnsWrongFalsely : Prop := flowTurnsRow.holds Try.pinned (OpenSpec.ofChange flowTurnsWrong)

/-- 'acequialaw02.CsrRows': WHATEVER THE INPUT: true; the input reads as it did. -/
def csrRowsSpec : ChangeSpec := { name := "csrRows", fn := fun _ => fun
  | [d] => { results := [.lit (.bool true)], args := [d] }
  | _ => none }
def csrRowsRow : OpenClaim := { program := "ytpojdgeginigjaa", sum := "fd500b1215308f35e904787f4e728982cdf7996ec99997a97fd4b430ee0203ab", func := "acequia/acequialaw02.CsrRows", spec := "csrRows", unfollowed := true, recurses := true, plainKeys := false, apart := false }
def CsrRowsSaid : Prop := csrRowsRow.holds Try.pinned (OpenSpec.ofChange csrRowsSpec)

/-- ITS FALSE NEIGHBOUR: 'it returns false'. Refute it at one input. -/
def csrRowsWrong : ChangeSpec := { name := "csrRows", fn := fun _ => fun
  | [d] => { results := [.lit (.bool false)], args := [d] }
  | _ => none }
def CsrRowsWrongFalsely : Prop := csrRowsRow.holds Try.pinned (OpenSpec.ofChange csrRowsWrong)

/-- 'acequialaw04.CutReach': WHATEVER THE INPUT: true; the input reads as it did. -/
def cutReachSpec : ChangeSpec := { name := "cutReach", fn := fun _ => fun
  | [d1, d2] => { results := [.lit (.bool true)], args := [d1, d2] }
  | _ => none }
def cutReachRow : OpenClaim := { program := "ytpojdgeginigjaa", sum := "fd500b1215308f35e904787f4e728982cdf7996ec99997a97fd4b430ee0203ab", func := "acequia/acequialaw04.CutReach", spec := "cutReach", unfollowed := true, recurses := true, plainKeys := false, apart := false }
def CutReachSaid : Prop := cutReachRow.holds Try.pinned (OpenSpec.ofChange cutReachSpec)

/-- ITS FALSE NEIGHBOUR: 'it returns false'. Refute it at one input. -/
def cutReachWrong : ChangeSpec := { name := "cutReach", fn := fun _ => fun
  | [d1, d2] => { results := [.lit (.bool false)], args := [d1, d2] }
  | _ => none }
def CutReachWrongFalsely : Prop := cutReachRow.holds Try.pinned (OpenSpec.ofChange cutReachWrong)

/-- 'acequialaw04.CutSides': WHATEVER THE INPUT: true; the input reads as it did. -/
def cutSidesSpec : ChangeSpec := { name := "cutSides", fn := fun _ => fun
  | [d1, d2, d3] => { results := [.lit (.bool true)], args := [d1, d2, d3] }
  | _ => none }
def cutSidesRow : OpenClaim := { program := "ytpojdgeginigjaa", sum := "fd500b1215308f35e904787f4e728982cdf7996ec99997a97fd4b430ee0203ab", func := "acequia/acequialaw04.CutSides", spec := "cutSides", unfollowed := true, recurses := true, plainKeys := false, apart := false }
def CutSidesSaid : Prop := cutSidesRow.holds Try.pinned (OpenSpec.ofChange cutSidesSpec)

/-- ITS FALSE NEIGHBOUR: 'it returns false'. Refute it at one input. -/
def cutSidesWrong : ChangeSpec := { name := "cutSides", fn := fun _ => fun
  | [d1, d2, d3] => { results := [.lit (.bool false)], args := [d1, d2, d3] }
  | _ => none }
def CutSidesWrongFalsely : Prop := cutSidesRow.holds Try.pinned (OpenSpec.ofChange cutSidesWrong)

/-- 'acequialaw04.CutPairs': WHATEVER THE INPUT: true; the input reads as it did. -/
def cutPairsSpec : ChangeSpec := { name := "cutPairs", fn := fun _ => fun
  | [d1, d2, d3] => { results := [.lit (.bool true)], args := [d1, d2, d3] }
  | _ => none }
def cutPairsRow : OpenClaim := { program := "ytpojdgeginigjaa", sum := "fd500b1215308f35e904787f4e728982cdf7996ec99997a97fd4b430ee0203ab", func := "acequia/acequialaw04.CutPairs", spec := "cutPairs", unfollowed := true, recurses := true, plainKeys := false, apart := false }
def CutPairsSaid : Prop := cutPairsRow.holds Try.pinned (OpenSpec.ofChange cutPairsSpec)

/-- ITS FALSE NEIGHBOUR: 'it returns false'. Refute it at one input. -/
def cutPairsWrong : ChangeSpec := { name := "cutPairs", fn := fun _ => fun
  | [d1, d2, d3] => { results := [.lit (.bool false)], args := [d1, d2, d3] }
  | _ => none }
def CutPairsWrongFalsely : Prop := cutPairsRow.holds Try.pinned (OpenSpec.ofChange cutPairsWrong)

/-- 'acequialaw04.CutAcross': WHATEVER THE INPUT: true; the input reads as it did. -/
def cutAcrossSpec : ChangeSpec := { name := "cutAcross", fn := fun _ => fun
  | [d1, d2, d3] => { results := [.lit (.bool true)], args := [d1, d2, d3] }
  | _ => none }
def cutAcrossRow : OpenClaim := { program := "ytpojdgeginigjaa", sum := "fd500b1215308f35e904787f4e728982cdf7996ec99997a97fd4b430ee0203ab", func := "acequia/acequialaw04.CutAcross", spec := "cutAcross", unfollowed := true, recurses := true, plainKeys := false, apart := false }
def CutAcrossSaid : Prop := cutAcrossRow.holds Try.pinned (OpenSpec.ofChange cutAcrossSpec)

/-- ITS FALSE NEIGHBOUR: 'it returns false'. Refute it at one input. -/
def cutAcrossWrong : ChangeSpec := { name := "cutAcross", fn := fun _ => fun
  | [d1, d2, d3] => { results := [.lit (.bool false)], args := [d1, d2, d3] }
  | _ => none }
def CutAcrossWrongFalsely : Prop := cutAcrossRow.holds Try.pinned (OpenSpec.ofChange cutAcrossWrong)

/-- 'acequialaw24.CheckSpoilt': WHATEVER THE INPUT: true; the input reads as it did. -/
def checkSpoiltSpec : ChangeSpec := { name := "checkSpoilt", fn := fun _ => fun
  | [d1, d2, d3] => { results := [.lit (.bool true)], args := [d1, d2, d3] }
  | _ => none }
def checkSpoiltRow : OpenClaim := { program := "ytpojdgeginigjaa", sum := "fd500b1215308f35e904787f4e728982cdf7996ec99997a97fd4b430ee0203ab", func := "acequia/acequialaw24.CheckSpoilt", spec := "checkSpoilt", unfollowed := true, recurses := true, plainKeys := false, apart := false }
def CheckSpoiltSaid : Prop := checkSpoiltRow.holds Try.pinned (OpenSpec.ofChange checkSpoiltSpec)

/-- ITS FALSE NEIGHBOUR: 'it returns false'. Refute it at one input. -/
def checkSpoiltWrong : ChangeSpec := { name := "checkSpoilt", fn := fun _ => fun
  | [d1, d2, d3] => { results := [.lit (.bool false)], args := [d1, d2, d3] }
  | _ => none }
def CheckSpoiltWrongFalsely : Prop := checkSpoiltRow.holds Try.pinned (OpenSpec.ofChange checkSpoiltWrong)

/-- 'acequialaw04.CutGreatest': WHATEVER THE INPUT: true; the input reads as it did. -/
def cutGreatestSpec : ChangeSpec := { name := "cutGreatest", fn := fun _ => fun
  | [d1, d2] => { results := [.lit (.bool true)], args := [d1, d2] }
  | _ => none }
def cutGreatestRow : OpenClaim := { program := "ytpojdgeginigjaa", sum := "fd500b1215308f35e904787f4e728982cdf7996ec99997a97fd4b430ee0203ab", func := "acequia/acequialaw04.CutGreatest", spec := "cutGreatest", unfollowed := true, recurses := true, plainKeys := false, apart := false }
def CutGreatestSaid : Prop := cutGreatestRow.holds Try.pinned (OpenSpec.ofChange cutGreatestSpec)

/-- ITS FALSE NEIGHBOUR: 'it returns false'. Refute it at one input. -/
def cutGreatestWrong : ChangeSpec := { name := "cutGreatest", fn := fun _ => fun
  | [d1, d2] => { results := [.lit (.bool false)], args := [d1, d2] }
  | _ => none }
def CutGreatestWrongFalsely : Prop := cutGreatestRow.holds Try.pinned (OpenSpec.ofChange cutGreatestWrong)

/-- 'acequialaw24.CheckFlows': WHATEVER THE INPUT: true; the input reads as it did. -/
def checkFlowsSpec : ChangeSpec := { name := "checkFlows", fn := fun _ => fun
  | [d1, d2, d3, d4, d5] => { results := [.lit (.bool true)], args := [d1, d2, d3, d4, d5] }
  | _ => none }
def checkFlowsRow : OpenClaim := { program := "ytpojdgeginigjaa", sum := "fd500b1215308f35e904787f4e728982cdf7996ec99997a97fd4b430ee0203ab", func := "acequia/acequialaw24.CheckFlows", spec := "checkFlows", unfollowed := true, recurses := true, plainKeys := false, apart := false }
def CheckFlowsSaid : Prop := checkFlowsRow.holds Try.pinned (OpenSpec.ofChange checkFlowsSpec)

/-- ITS FALSE NEIGHBOUR: 'it returns false'. Refute it at one input. -/
def checkFlowsWrong : ChangeSpec := { name := "checkFlows", fn := fun _ => fun
  | [d1, d2, d3, d4, d5] => { results := [.lit (.bool false)], args := [d1, d2, d3, d4, d5] }
  | _ => none }
def CheckFlowsWrongFalsely : Prop := checkFlowsRow.holds Try.pinned (OpenSpec.ofChange checkFlowsWrong)

/- THE SECOND FORM. 'bulk': how many values and letters a reading holds, each counted each time it is reached (what is shared counts as often as it is met; a slice's spare places count too). A statement '..UptoSaid' is the law's where the arguments, and the package variables that the reading takes, are together of bulk at most 1048576: NARROWER than '..Said'. Prove '..Said' where nothing that the law and all that it calls make is longer than what came in: it says more and counts as full. Else prove '..UptoSaid'. A law counts once. -/
mutual
def uptoBulk {H : Type} : DataW H → Nat
  | .lit (.string bytes) => bytes.length + 1
  | .lit _ => 1
  | .nil => 1
  | .ptr d => uptoBulk d + 1
  | .slice elems spare => uptoBulkAll elems + uptoBulkAll spare + 1
  | .agg parts => uptoBulkAll parts + 1
  | .iface _ d => uptoBulk d + 1
  | .map entries => uptoBulkEntries entries + 1
  | .held _ => 1
def uptoBulkAll {H : Type} : List (DataW H) → Nat
  | [] => 0
  | d :: r => uptoBulk d + uptoBulkAll r
def uptoBulkEntries {H : Type} : List (Lit × DataW H) → Nat
  | [] => 0
  | x :: r => uptoBulkEntry x + uptoBulkEntries r
def uptoBulkEntry {H : Type} : Lit × DataW H → Nat
  | (.string bytes, d) => bytes.length + uptoBulk d + 1
  | (_, d) => uptoBulk d + 1
 end
def uptoSmall : (H : Type) → List (DataW H) → Bool := fun _ ds => decide (uptoBulkAll ds ≤ 1048576)
def OpenSpec.upto (s : _root_.Go.ChangeSpec) : _root_.Go.OpenSpec := { _root_.Go.OpenSpec.ofChange s with cond := some uptoSmall }

/-- 'acequialaw01.NetFirst', WHERE WHAT IT READS IS OF BULK AT MOST 1048576: true; the input reads as it did. -/
def netFirstUptoRow : OpenClaim := { program := "ytpojdgeginigjaa", sum := "fd500b1215308f35e904787f4e728982cdf7996ec99997a97fd4b430ee0203ab", func := "acequia/acequialaw01.NetFirst", spec := "netFirst", unfollowed := true, recurses := true, plainKeys := false, apart := false, narrowed := true }
def NetFirstUptoSaid : Prop := netFirstUptoRow.holds Try.pinned (OpenSpec.upto netFirstSpec)

/-- 'acequialaw01.NetSums', WHERE WHAT IT READS IS OF BULK AT MOST 1048576: true; the input reads as it did. -/
def netSumsUptoRow : OpenClaim := { program := "ytpojdgeginigjaa", sum := "fd500b1215308f35e904787f4e728982cdf7996ec99997a97fd4b430ee0203ab", func := "acequia/acequialaw01.NetSums", spec := "netSums", unfollowed := true, recurses := true, plainKeys := false, apart := false, narrowed := true }
def NetSumsUptoSaid : Prop := netSumsUptoRow.holds Try.pinned (OpenSpec.upto netSumsSpec)

/-- 'acequialaw24.CheckBest', WHERE WHAT IT READS IS OF BULK AT MOST 1048576: true; the input reads as it did. -/
def checkBestUptoRow : OpenClaim := { program := "ytpojdgeginigjaa", sum := "fd500b1215308f35e904787f4e728982cdf7996ec99997a97fd4b430ee0203ab", func := "acequia/acequialaw24.CheckBest", spec := "checkBest", unfollowed := true, recurses := true, plainKeys := false, apart := false, narrowed := true }
def CheckBestUptoSaid : Prop := checkBestUptoRow.holds Try.pinned (OpenSpec.upto checkBestSpec)

/-- 'acequialaw01.NetJoins', WHERE WHAT IT READS IS OF BULK AT MOST 1048576: true; the input reads as it did. -/
def netJoinsUptoRow : OpenClaim := { program := "ytpojdgeginigjaa", sum := "fd500b1215308f35e904787f4e728982cdf7996ec99997a97fd4b430ee0203ab", func := "acequia/acequialaw01.NetJoins", spec := "netJoins", unfollowed := true, recurses := true, plainKeys := false, apart := false, narrowed := true }
def NetJoinsUptoSaid : Prop := netJoinsUptoRow.holds Try.pinned (OpenSpec.upto netJoinsSpec)

/-- 'acequialaw01.NetCopies', WHERE WHAT IT READS IS OF BULK AT MOST 1048576: true; the input reads as it did. -/
def netCopiesUptoRow : OpenClaim := { program := "ytpojdgeginigjaa", sum := "fd500b1215308f35e904787f4e728982cdf7996ec99997a97fd4b430ee0203ab", func := "acequia/acequialaw01.NetCopies", spec := "netCopies", unfollowed := true, recurses := true, plainKeys := false, apart := false, narrowed := true }
def NetCopiesUptoSaid : Prop := netCopiesUptoRow.holds Try.pinned (OpenSpec.upto netCopiesSpec)

/-- 'acequialaw24.CheckGreatest', WHERE WHAT IT READS IS OF BULK AT MOST 1048576: true; the input reads as it did. -/
def checkGreatestUptoRow : OpenClaim := { program := "ytpojdgeginigjaa", sum := "fd500b1215308f35e904787f4e728982cdf7996ec99997a97fd4b430ee0203ab", func := "acequia/acequialaw24.CheckGreatest", spec := "checkGreatest", unfollowed := true, recurses := true, plainKeys := false, apart := false, narrowed := true }
def CheckGreatestUptoSaid : Prop := checkGreatestUptoRow.holds Try.pinned (OpenSpec.upto checkGreatestSpec)

/-- 'acequialaw01.NetTurns', WHERE WHAT IT READS IS OF BULK AT MOST 1048576: true; the input reads as it did. -/
def netTurnsUptoRow : OpenClaim := { program := "ytpojdgeginigjaa", sum := "fd500b1215308f35e904787f4e728982cdf7996ec99997a97fd4b430ee0203ab", func := "acequia/acequialaw01.NetTurns", spec := "netTurns", unfollowed := true, recurses := true, plainKeys := false, apart := false, narrowed := true }
def NetTurnsUptoSaid : Prop := netTurnsUptoRow.holds Try.pinned (OpenSpec.upto netTurnsSpec)

/-- 'acequialaw02.CsrTurns', WHERE WHAT IT READS IS OF BULK AT MOST 1048576: true; the input reads as it did. -/
def csrTurnsUptoRow : OpenClaim := { program := "ytpojdgeginigjaa", sum := "fd500b1215308f35e904787f4e728982cdf7996ec99997a97fd4b430ee0203ab", func := "acequia/acequialaw02.CsrTurns", spec := "csrTurns", unfollowed := true, recurses := true, plainKeys := false, apart := false, narrowed := true }
def CsrTurnsUptoSaid : Prop := csrTurnsUptoRow.holds Try.pinned (OpenSpec.upto csrTurnsSpec)

/-- 'acequialaw02.CsrBack', WHERE WHAT IT READS IS OF BULK AT MOST 1048576: true; the input reads as it did. -/
def csrBackUptoRow : OpenClaim := { program := "ytpojdgeginigjaa", sum := "fd500b1215308f35e904787f4e728982cdf7996ec99997a97fd4b430ee0203ab", func := "acequia/acequialaw02.CsrBack", spec := "csrBack", unfollowed := true, recurses := true, plainKeys := false, apart := false, narrowed := true }
def CsrBackUptoSaid : Prop := csrBackUptoRow.holds Try.pinned (OpenSpec.upto csrBackSpec)

/-- 'acequialaw02.CsrPairs', WHERE WHAT IT READS IS OF BULK AT MOST 1048576: true; the input reads as it did. -/
def csrPairsUptoRow : OpenClaim := { program := "ytpojdgeginigjaa", sum := "fd500b1215308f35e904787f4e728982cdf7996ec99997a97fd4b430ee0203ab", func := "acequia/acequialaw02.CsrPairs", spec := "csrPairs", unfollowed := true, recurses := true, plainKeys := false, apart := false, narrowed := true }
def CsrPairsUptoSaid : Prop := csrPairsUptoRow.holds Try.pinned (OpenSpec.upto csrPairsSpec)

/-- 'acequialaw03.FlowSums', WHERE WHAT IT READS IS OF BULK AT MOST 1048576: true; the input reads as it did. -/
def flowSumsUptoRow : OpenClaim := { program := "ytpojdgeginigjaa", sum := "fd500b1215308f35e904787f4e728982cdf7996ec99997a97fd4b430ee0203ab", func := "acequia/acequialaw03.FlowSums", spec := "flowSums", unfollowed := true, recurses := true, plainKeys := false, apart := false, narrowed := true }
def FlowSumsUptoSaid : Prop := flowSumsUptoRow.holds Try.pinned (OpenSpec.upto flowSumsSpec)

/-- 'acequialaw03.FlowSends', WHERE WHAT IT READS IS OF BULK AT MOST 1048576: true; the input reads as it did. -/
def flowSendsUptoRow : OpenClaim := { program := "ytpojdgeginigjaa", sum := "fd500b1215308f35e904787f4e728982cdf7996ec99997a97fd4b430ee0203ab", func := "acequia/acequialaw03.FlowSends", spec := "flowSends", unfollowed := true, recurses := true, plainKeys := false, apart := false, narrowed := true }
def FlowSendsUptoSaid : Prop := flowSendsUptoRow.holds Try.pinned (OpenSpec.upto flowSendsSpec)

/-- 'acequialaw03.FlowWays', WHERE WHAT IT READS IS OF BULK AT MOST 1048576: true; the input reads as it did. -/
def flowWaysUptoRow : OpenClaim := { program := "ytpojdgeginigjaa", sum := "fd500b1215308f35e904787f4e728982cdf7996ec99997a97fd4b430ee0203ab", func := "acequia/acequialaw03.FlowWays", spec := "flowWays", unfollowed := true, recurses := true, plainKeys := false, apart := false, narrowed := true }
def FlowWaysUptoSaid : Prop := flowWaysUptoRow.holds Try.pinned (OpenSpec.upto flowWaysSpec)

/-- 'acequialaw03.FlowAdds', WHERE WHAT IT READS IS OF BULK AT MOST 1048576: true; the input reads as it did. -/
def flowAddsUptoRow : OpenClaim := { program := "ytpojdgeginigjaa", sum := "fd500b1215308f35e904787f4e728982cdf7996ec99997a97fd4b430ee0203ab", func := "acequia/acequialaw03.FlowAdds", spec := "flowAdds", unfollowed := true, recurses := true, plainKeys := false, apart := false, narrowed := true }
def FlowAddsUptoSaid : Prop := flowAddsUptoRow.holds Try.pinned (OpenSpec.upto flowAddsSpec)

/-- 'acequialaw03.FlowTurns', WHERE WHAT IT READS IS OF BULK AT MOST 1048576: true; the input reads as it did. -/
def flowTurnsUptoRow : OpenClaim := { program := "ytpojdgeginigjaa", sum := "fd500b1215308f35e904787f4e728982cdf7996ec99997a97fd4b430ee0203ab", func := "acequia/acequialaw03.FlowTurns", spec := "flowTurns", unfollowed := true, recurses := true, plainKeys := false, apart := false, narrowed := true }
def FlowTurnsUptoSaid : Prop := flowTurnsUptoRow.holds Try.pinned (OpenSpec.upto flowTurnsSpec)

/-- 'acequialaw02.CsrRows', WHERE WHAT IT READS IS OF BULK AT MOST 1048576: true; the input reads as it did. -/
def csrRowsUptoRow : OpenClaim := { program := "ytpojdgeginigjaa", sum := "fd500b1215308f35e904787f4e728982cdf7996ec99997a97fd4b430ee0203ab", func := "acequia/acequialaw02.CsrRows", spec := "csrRows", unfollowed := true, recurses := true, plainKeys := false, apart := false, narrowed := true }
def CsrRowsUptoSaid : Prop := csrRowsUptoRow.holds Try.pinned (OpenSpec.upto csrRowsSpec)

/-- 'acequialaw04.CutReach', WHERE WHAT IT READS IS OF BULK AT MOST 1048576: true; the input reads as it did. -/
def cutReachUptoRow : OpenClaim := { program := "ytpojdgeginigjaa", sum := "fd500b1215308f35e904787f4e728982cdf7996ec99997a97fd4b430ee0203ab", func := "acequia/acequialaw04.CutReach", spec := "cutReach", unfollowed := true, recurses := true, plainKeys := false, apart := false, narrowed := true }
def CutReachUptoSaid : Prop := cutReachUptoRow.holds Try.pinned (OpenSpec.upto cutReachSpec)

/-- 'acequialaw04.CutSides', WHERE WHAT IT READS IS OF BULK AT MOST 1048576: true; the input reads as it did. -/
def cutSidesUptoRow : OpenClaim := { program := "ytpojdgeginigjaa", sum := "fd500b1215308f35e904787f4e728982cdf7996ec99997a97fd4b430ee0203ab", func := "acequia/acequialaw04.CutSides", spec := "cutSides", unfollowed := true, recurses := true, plainKeys := false, apart := false, narrowed := true }
def CutSidesUptoSaid : Prop := cutSidesUptoRow.holds Try.pinned (OpenSpec.upto cutSidesSpec)

/-- 'acequialaw04.CutPairs', WHERE WHAT IT READS IS OF BULK AT MOST 1048576: true; the input reads as it did. -/
def cutPairsUptoRow : OpenClaim := { program := "ytpojdgeginigjaa", sum := "fd500b1215308f35e904787f4e728982cdf7996ec99997a97fd4b430ee0203ab", func := "acequia/acequialaw04.CutPairs", spec := "cutPairs", unfollowed := true, recurses := true, plainKeys := false, apart := false, narrowed := true }
def CutPairsUptoSaid : Prop := cutPairsUptoRow.holds Try.pinned (OpenSpec.upto cutPairsSpec)

/-- 'acequialaw04.CutAcross', WHERE WHAT IT READS IS OF BULK AT MOST 1048576: true; the input reads as it did. -/
def cutAcrossUptoRow : OpenClaim := { program := "ytpojdgeginigjaa", sum := "fd500b1215308f35e904787f4e728982cdf7996ec99997a97fd4b430ee0203ab", func := "acequia/acequialaw04.CutAcross", spec := "cutAcross", unfollowed := true, recurses := true, plainKeys := false, apart := false, narrowed := true }
def CutAcrossUptoSaid : Prop := cutAcrossUptoRow.holds Try.pinned (OpenSpec.upto cutAcrossSpec)

/-- 'acequialaw24.CheckSpoilt', WHERE WHAT IT READS IS OF BULK AT MOST 1048576: true; the input reads as it did. -/
def checkSpoiltUptoRow : OpenClaim := { program := "ytpojdgeginigjaa", sum := "fd500b1215308f35e904787f4e728982cdf7996ec99997a97fd4b430ee0203ab", func := "acequia/acequialaw24.CheckSpoilt", spec := "checkSpoilt", unfollowed := true, recurses := true, plainKeys := false, apart := false, narrowed := true }
def CheckSpoiltUptoSaid : Prop := checkSpoiltUptoRow.holds Try.pinned (OpenSpec.upto checkSpoiltSpec)

/-- 'acequialaw04.CutGreatest', WHERE WHAT IT READS IS OF BULK AT MOST 1048576: true; the input reads as it did. -/
def cutGreatestUptoRow : OpenClaim := { program := "ytpojdgeginigjaa", sum := "fd500b1215308f35e904787f4e728982cdf7996ec99997a97fd4b430ee0203ab", func := "acequia/acequialaw04.CutGreatest", spec := "cutGreatest", unfollowed := true, recurses := true, plainKeys := false, apart := false, narrowed := true }
def CutGreatestUptoSaid : Prop := cutGreatestUptoRow.holds Try.pinned (OpenSpec.upto cutGreatestSpec)

/-- 'acequialaw24.CheckFlows', WHERE WHAT IT READS IS OF BULK AT MOST 1048576: true; the input reads as it did. -/
def checkFlowsUptoRow : OpenClaim := { program := "ytpojdgeginigjaa", sum := "fd500b1215308f35e904787f4e728982cdf7996ec99997a97fd4b430ee0203ab", func := "acequia/acequialaw24.CheckFlows", spec := "checkFlows", unfollowed := true, recurses := true, plainKeys := false, apart := false, narrowed := true }
def CheckFlowsUptoSaid : Prop := checkFlowsUptoRow.holds Try.pinned (OpenSpec.upto checkFlowsSpec)

end Rows
end Go.Proofs.Ytpojdgeginigjaa
