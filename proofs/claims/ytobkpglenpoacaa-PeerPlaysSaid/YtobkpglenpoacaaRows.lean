/-
  No cell of these rows narrows 'for every input' (looked for: loops, veiled, ifaces, maps, wideKeys, modest, calm, conditions, laid).
  DERIVED. THE GIVEN ROWS OF THIS SEAT. 8 by the template 'for every input the law returns true; each argument reads behind the call as it read before'; 0 by the template 'total and deterministic' (their statements: YtobkpglenpoacaaTotals.lean).
  GIVEN WITH THE SEED: the statements are not yours to turn. If you find one false, say at which input.
  Laid BY PROGRAM, IN A SANDBOX (cutbox-rows.mjs): the forced cells as the released guide's own fill.sh prints them over the translation eb6b47ac3b016fba… (all of the seat's roots in one cut). By AI agents, Wed Nov 11 2026. No macro, syntax, notation, axiom, sorry.
-/
import Derived.Test.YtobkpglenpoacaaChecked
import GoSem.Claim
import GoSem.ClaimJoined
import GoSem.ClaimMapViews
import Derived.JoinedTies
import Derived.KernelRfl
namespace Go.Proofs.Ytobkpglenpoacaa
/- THE CELL 'sum', in the pinned program and in every row, IS THE sha256 OF THE DUMP (.gsa) THAT YtobkpglenpoacaaProg.lean LOADS. Nothing in Lean hashes anything: it is a label: what it is worth is what the hold of that sum in a sandbox is worth. -/
noncomputable def Try.pinned : Pinned := { name := "ytobkpglenpoacaa", sum := "eb6b47ac3b016fbaf9752f70e671e5c88a96185735e74d86ecfdde51ace0aeda", checked := Try.checked }
namespace Rows
def none {H : Type} : Left H := { results := [], args := [] }

/-- 'arbourlaw08.ChunkShifts': WHATEVER THE INPUT: true; the input reads as it did. -/
def chunkShiftsSpec : ChangeSpec := { name := "chunkShifts", fn := fun _ => fun
  | [d1, d2, d3] => { results := [.lit (.bool true)], args := [d1, d2, d3] }
  | _ => none }
def chunkShiftsRow : OpenClaim := { program := "ytobkpglenpoacaa", sum := "eb6b47ac3b016fbaf9752f70e671e5c88a96185735e74d86ecfdde51ace0aeda", func := "arbour/arbourlaw08.ChunkShifts", spec := "chunkShifts", unfollowed := true, recurses := true, apart := false }
def ChunkShiftsSaid : Prop := chunkShiftsRow.holds Try.pinned (OpenSpec.ofChange chunkShiftsSpec)

/-- ITS FALSE NEIGHBOUR: 'it returns false'. Refute it at one input. -/
def chunkShiftsWrong : ChangeSpec := { name := "chunkShifts", fn := fun _ => fun
  | [d1, d2, d3] => { results := [.lit (.bool false)], args := [d1, d2, d3] }
  | _ => none }
def ChunkShiftsWrongFalsely : Prop := chunkShiftsRow.holds Try.pinned (OpenSpec.ofChange chunkShiftsWrong)

/-- 'arbourlaw08.ChunkSizes': WHATEVER THE INPUT: true; the input reads as it did. -/
def chunkSizesSpec : ChangeSpec := { name := "chunkSizes", fn := fun _ => fun
  | [d1, d2, d3] => { results := [.lit (.bool true)], args := [d1, d2, d3] }
  | _ => none }
def chunkSizesRow : OpenClaim := { program := "ytobkpglenpoacaa", sum := "eb6b47ac3b016fbaf9752f70e671e5c88a96185735e74d86ecfdde51ace0aeda", func := "arbour/arbourlaw08.ChunkSizes", spec := "chunkSizes", unfollowed := true, recurses := true, apart := false }
def ChunkSizesSaid : Prop := chunkSizesRow.holds Try.pinned (OpenSpec.ofChange chunkSizesSpec)

/-- ITS FALSE NEIGHBOUR: 'it returns false'. Refute it at one input. -/
def chunkSizesWrong : ChangeSpec := { name := "chunkSizes", fn := fun _ => fun
  | [d1, d2, d3] => { results := [.lit (.bool false)], args := [d1, d2, d3] }
  | _ => none }
def ChunkSizesWrongFalsely : Prop := chunkSizesRow.holds Try.pinned (OpenSpec.ofChange chunkSizesWrong)

/-- 'arbourlaw08.ChunkEnds': WHATEVER THE INPUT: true; the input reads as it did. -/
def chunkEndsSpec : ChangeSpec := { name := "chunkEnds", fn := fun _ => fun
  | [d1, d2] => { results := [.lit (.bool true)], args := [d1, d2] }
  | _ => none }
def chunkEndsRow : OpenClaim := { program := "ytobkpglenpoacaa", sum := "eb6b47ac3b016fbaf9752f70e671e5c88a96185735e74d86ecfdde51ace0aeda", func := "arbour/arbourlaw08.ChunkEnds", spec := "chunkEnds", unfollowed := true, recurses := true, apart := false }
def ChunkEndsSaid : Prop := chunkEndsRow.holds Try.pinned (OpenSpec.ofChange chunkEndsSpec)

/-- ITS FALSE NEIGHBOUR: 'it returns false'. Refute it at one input. -/
def chunkEndsWrong : ChangeSpec := { name := "chunkEnds", fn := fun _ => fun
  | [d1, d2] => { results := [.lit (.bool false)], args := [d1, d2] }
  | _ => none }
def ChunkEndsWrongFalsely : Prop := chunkEndsRow.holds Try.pinned (OpenSpec.ofChange chunkEndsWrong)

/-- 'arbourlaw20.PeerShares': WHATEVER THE INPUT: true; the input reads as it did. -/
def peerSharesSpec : ChangeSpec := { name := "peerShares", fn := fun _ => fun
  | [d1, d2, d3] => { results := [.lit (.bool true)], args := [d1, d2, d3] }
  | _ => none }
def peerSharesRow : OpenClaim := { program := "ytobkpglenpoacaa", sum := "eb6b47ac3b016fbaf9752f70e671e5c88a96185735e74d86ecfdde51ace0aeda", func := "arbour/arbourlaw20.PeerShares", spec := "peerShares", apart := false }
def PeerSharesSaid : Prop := peerSharesRow.holds Try.pinned (OpenSpec.ofChange peerSharesSpec)

/-- ITS FALSE NEIGHBOUR: 'it returns false'. Refute it at one input. -/
def peerSharesWrong : ChangeSpec := { name := "peerShares", fn := fun _ => fun
  | [d1, d2, d3] => { results := [.lit (.bool false)], args := [d1, d2, d3] }
  | _ => none }
def PeerSharesWrongFalsely : Prop := peerSharesRow.holds Try.pinned (OpenSpec.ofChange peerSharesWrong)

/-- 'arbourlaw20.PeerPlays': WHATEVER THE INPUT: true; the input reads as it did. -/
def peerPlaysSpec : ChangeSpec := { name := "peerPlays", fn := fun _ => fun
  | [d] => { results := [.lit (.bool true)], args := [d] }
  | _ => none }
def peerPlaysRow : OpenClaim := { program := "ytobkpglenpoacaa", sum := "eb6b47ac3b016fbaf9752f70e671e5c88a96185735e74d86ecfdde51ace0aeda", func := "arbour/arbourlaw20.PeerPlays", spec := "peerPlays", apart := false }
def PeerPlaysSaid : Prop := peerPlaysRow.holds Try.pinned (OpenSpec.ofChange peerPlaysSpec)

/-- ITS FALSE NEIGHBOUR: 'it returns false'. Refute it at one input. -/
def peerPlaysWrong : ChangeSpec := { name := "peerPlays", fn := fun _ => fun
  | [d] => { results := [.lit (.bool false)], args := [d] }
  | _ => none }
def PeerPlaysWrongFalsely : Prop := peerPlaysRow.holds Try.pinned (OpenSpec.ofChange peerPlaysWrong)

/-- 'arbourlaw20.PeerNil': WHATEVER THE INPUT: true; the input reads as it did. -/
def peerNilSpec : ChangeSpec := { name := "peerNil", fn := fun _ => fun
  | [d1, d2, d3] => { results := [.lit (.bool true)], args := [d1, d2, d3] }
  | _ => none }
def peerNilRow : OpenClaim := { program := "ytobkpglenpoacaa", sum := "eb6b47ac3b016fbaf9752f70e671e5c88a96185735e74d86ecfdde51ace0aeda", func := "arbour/arbourlaw20.PeerNil", spec := "peerNil", apart := false }
def PeerNilSaid : Prop := peerNilRow.holds Try.pinned (OpenSpec.ofChange peerNilSpec)

/-- ITS FALSE NEIGHBOUR: 'it returns false'. Refute it at one input. -/
def peerNilWrong : ChangeSpec := { name := "peerNil", fn := fun _ => fun
  | [d1, d2, d3] => { results := [.lit (.bool false)], args := [d1, d2, d3] }
  | _ => none }
def PeerNilWrongFalsely : Prop := peerNilRow.holds Try.pinned (OpenSpec.ofChange peerNilWrong)

/-- 'arbourlaw08.ChunkJoins': WHATEVER THE INPUT: true; the input reads as it did. -/
def chunkJoinsSpec : ChangeSpec := { name := "chunkJoins", fn := fun _ => fun
  | [d1, d2] => { results := [.lit (.bool true)], args := [d1, d2] }
  | _ => none }
def chunkJoinsRow : OpenClaim := { program := "ytobkpglenpoacaa", sum := "eb6b47ac3b016fbaf9752f70e671e5c88a96185735e74d86ecfdde51ace0aeda", func := "arbour/arbourlaw08.ChunkJoins", spec := "chunkJoins", unfollowed := true, recurses := true, apart := false }
def ChunkJoinsSaid : Prop := chunkJoinsRow.holds Try.pinned (OpenSpec.ofChange chunkJoinsSpec)

/-- ITS FALSE NEIGHBOUR: 'it returns false'. Refute it at one input. -/
def chunkJoinsWrong : ChangeSpec := { name := "chunkJoins", fn := fun _ => fun
  | [d1, d2] => { results := [.lit (.bool false)], args := [d1, d2] }
  | _ => none }
def ChunkJoinsWrongFalsely : Prop := chunkJoinsRow.holds Try.pinned (OpenSpec.ofChange chunkJoinsWrong)

/-- 'arbourlaw06.DiskSettles': WHATEVER THE INPUT: true; the input reads as it did. -/
def diskSettlesSpec : ChangeSpec := { name := "diskSettles", fn := fun _ => fun
  | [d1, d2, d3] => { results := [.lit (.bool true)], args := [d1, d2, d3] }
  | _ => none }
def diskSettlesRow : OpenClaim := { program := "ytobkpglenpoacaa", sum := "eb6b47ac3b016fbaf9752f70e671e5c88a96185735e74d86ecfdde51ace0aeda", func := "arbour/arbourlaw06.DiskSettles", spec := "diskSettles", unfollowed := true, recurses := true, apart := false }
def DiskSettlesSaid : Prop := diskSettlesRow.holds Try.pinned (OpenSpec.ofChange diskSettlesSpec)

/-- ITS FALSE NEIGHBOUR: 'it returns false'. Refute it at one input. -/
def diskSettlesWrong : ChangeSpec := { name := "diskSettles", fn := fun _ => fun
  | [d1, d2, d3] => { results := [.lit (.bool false)], args := [d1, d2, d3] }
  | _ => none }
def DiskSettlesWrongFalsely : Prop := diskSettlesRow.holds Try.pinned (OpenSpec.ofChange diskSettlesWrong)

/- THE SECOND FORM. 'bulk': how many values and letters a reading holds, each counted each time it is reached (what is shared counts as often as it is met; a slice's spare places count too). A statement '..UptoSaid' is the law's where the arguments, and the package variables that the reading takes, are together of bulk at most 1048576: NARROWER than '..Said'. Prove '..Said' where nothing that the law and all that it calls make is longer than what came in: it says more and counts as full. Else prove '..UptoSaid'. A law counts once. -/
mutual
def uptoBulk {H : Type} : DataW H → Nat
  | .lit (.string bytes) => bytes.length + 1
  | .lit _ => 1
  | .nil => 1
  | .ptr d => uptoBulk d + 1
  | .slice elems spare => uptoBulkAll elems + uptoBulkAll spare + 1
  | .agg parts => uptoBulkAll parts + 1
  | .iface _ d => uptoBulk d + 1
  | .map entries => uptoBulkEntries entries + 1
  | .held _ => 1
def uptoBulkAll {H : Type} : List (DataW H) → Nat
  | [] => 0
  | d :: r => uptoBulk d + uptoBulkAll r
def uptoBulkEntries {H : Type} : List (Lit × DataW H) → Nat
  | [] => 0
  | x :: r => uptoBulkEntry x + uptoBulkEntries r
def uptoBulkEntry {H : Type} : Lit × DataW H → Nat
  | (.string bytes, d) => bytes.length + uptoBulk d + 1
  | (_, d) => uptoBulk d + 1
 end
def uptoSmall : (H : Type) → List (DataW H) → Bool := fun _ ds => decide (uptoBulkAll ds ≤ 1048576)
def OpenSpec.upto (s : _root_.Go.ChangeSpec) : _root_.Go.OpenSpec := { _root_.Go.OpenSpec.ofChange s with cond := some uptoSmall }

/-- 'arbourlaw08.ChunkShifts', WHERE WHAT IT READS IS OF BULK AT MOST 1048576: true; the input reads as it did. -/
def chunkShiftsUptoRow : OpenClaim := { program := "ytobkpglenpoacaa", sum := "eb6b47ac3b016fbaf9752f70e671e5c88a96185735e74d86ecfdde51ace0aeda", func := "arbour/arbourlaw08.ChunkShifts", spec := "chunkShifts", unfollowed := true, recurses := true, apart := false, narrowed := true }
def ChunkShiftsUptoSaid : Prop := chunkShiftsUptoRow.holds Try.pinned (OpenSpec.upto chunkShiftsSpec)

/-- 'arbourlaw08.ChunkSizes', WHERE WHAT IT READS IS OF BULK AT MOST 1048576: true; the input reads as it did. -/
def chunkSizesUptoRow : OpenClaim := { program := "ytobkpglenpoacaa", sum := "eb6b47ac3b016fbaf9752f70e671e5c88a96185735e74d86ecfdde51ace0aeda", func := "arbour/arbourlaw08.ChunkSizes", spec := "chunkSizes", unfollowed := true, recurses := true, apart := false, narrowed := true }
def ChunkSizesUptoSaid : Prop := chunkSizesUptoRow.holds Try.pinned (OpenSpec.upto chunkSizesSpec)

/-- 'arbourlaw08.ChunkEnds', WHERE WHAT IT READS IS OF BULK AT MOST 1048576: true; the input reads as it did. -/
def chunkEndsUptoRow : OpenClaim := { program := "ytobkpglenpoacaa", sum := "eb6b47ac3b016fbaf9752f70e671e5c88a96185735e74d86ecfdde51ace0aeda", func := "arbour/arbourlaw08.ChunkEnds", spec := "chunkEnds", unfollowed := true, recurses := true, apart := false, narrowed := true }
def ChunkEndsUptoSaid : Prop := chunkEndsUptoRow.holds Try.pinned (OpenSpec.upto chunkEndsSpec)

/-- 'arbourlaw20.PeerShares', WHERE WHAT IT READS IS OF BULK AT MOST 1048576: true; the input reads as it did. -/
def peerSharesUptoRow : OpenClaim := { program := "ytobkpglenpoacaa", sum := "eb6b47ac3b016fbaf9752f70e671e5c88a96185735e74d86ecfdde51ace0aeda", func := "arbour/arbourlaw20.PeerShares", spec := "peerShares", apart := false, narrowed := true }
def PeerSharesUptoSaid : Prop := peerSharesUptoRow.holds Try.pinned (OpenSpec.upto peerSharesSpec)

/-- 'arbourlaw20.PeerPlays', WHERE WHAT IT READS IS OF BULK AT MOST 1048576: true; the input reads as it did. -/
def peerPlaysUptoRow : OpenClaim := { program := "ytobkpglenpoacaa", sum := "eb6b47ac3b016fbaf9752f70e671e5c88a96185735e74d86ecfdde51ace0aeda", func := "arbour/arbourlaw20.PeerPlays", spec := "peerPlays", apart := false, narrowed := true }
def PeerPlaysUptoSaid : Prop := peerPlaysUptoRow.holds Try.pinned (OpenSpec.upto peerPlaysSpec)

/-- 'arbourlaw20.PeerNil', WHERE WHAT IT READS IS OF BULK AT MOST 1048576: true; the input reads as it did. -/
def peerNilUptoRow : OpenClaim := { program := "ytobkpglenpoacaa", sum := "eb6b47ac3b016fbaf9752f70e671e5c88a96185735e74d86ecfdde51ace0aeda", func := "arbour/arbourlaw20.PeerNil", spec := "peerNil", apart := false, narrowed := true }
def PeerNilUptoSaid : Prop := peerNilUptoRow.holds Try.pinned (OpenSpec.upto peerNilSpec)

/-- 'arbourlaw08.ChunkJoins', WHERE WHAT IT READS IS OF BULK AT MOST 1048576: true; the input reads as it did. -/
def chunkJoinsUptoRow : OpenClaim := { program := "ytobkpglenpoacaa", sum := "eb6b47ac3b016fbaf9752f70e671e5c88a96185735e74d86ecfdde51ace0aeda", func := "arbour/arbourlaw08.ChunkJoins", spec := "chunkJoins", unfollowed := true, recurses := true, apart := false, narrowed := true }
def ChunkJoinsUptoSaid : Prop := chunkJoinsUptoRow.holds Try.pinned (OpenSpec.upto chunkJoinsSpec)

/-- 'arbourlaw06.DiskSettles', WHERE WHAT IT READS IS OF BULK AT MOST 1048576: true; the input reads as it did. -/
def diskSettlesUptoRow : OpenClaim := { program := "ytobkpglenpoacaa", sum := "eb6b47ac3b016fbaf9752f70e671e5c88a96185735e74d86ecfdde51ace0aeda", func := "arbour/arbourlaw06.DiskSettles", spec := "diskSettles", unfollowed := true, recurses := true, apart := false, narrowed := true }
def DiskSettlesUptoSaid : Prop := diskSettlesUptoRow.holds Try.pinned (OpenSpec.upto diskSettlesSpec)

end Rows
end Go.Proofs.Ytobkpglenpoacaa
