/-
  No cell of these rows narrows 'for every input' (looked for: loops, veiled, ifaces, maps, wideKeys, modest, calm, conditions, laid).
  DERIVED. THE GIVEN ROWS OF THIS SEAT. 3 by the template 'for every input the law returns true; each argument reads behind the call as it read before'; 0 by the template 'total and deterministic' (their statements: YtdbodnpfeiplgaaTotals.lean).
  GIVEN WITH THE SEED: the statements are not yours to turn. If you find one false, say at which input.
  Laid BY PROGRAM, IN A SANDBOX (cutbox-rows.mjs): the forced cells as the released guide's own fill.sh prints them over the translation f2b4452fc941cf11… (all of the seat's roots in one cut). By AI agents, Wed Nov 11 2026. No macro, syntax, notation, axiom, sorry.
-/
import Derived.Test.YtdbodnpfeiplgaaChecked
import GoSem.Claim
import GoSem.ClaimJoined
import GoSem.ClaimMapViews
import Derived.JoinedTies
import Derived.KernelRfl
namespace Go.Proofs.Ytdbodnpfeiplgaa
/- THE CELL 'sum', in the pinned program and in every row, IS THE sha256 OF THE DUMP (.gsa) THAT YtdbodnpfeiplgaaProg.lean LOADS. Nothing in Lean hashes anything: it is a label: what it is worth is what the hold of that sum in a sandbox is worth. -/
noncomputable def Try.pinned : Pinned := { name := "ytdbodnpfeiplgaa", sum := "f2b4452fc941cf112f59fa646b3d5e41b4da7414c03332538e591d02c796b0e7", checked := Try.checked }
namespace Rows
def none {H : Type} : Left H := { results := [], args := [] }

/-- 'ringerlaw22.PeersReach': WHATEVER THE INPUT: true; the input reads as it did. -/
def peersReachSpec : ChangeSpec := { name := "peersReach", fn := fun _ => fun
  | [d1, d2, d3, d4] => { results := [.lit (.bool true)], args := [d1, d2, d3, d4] }
  | _ => none }
def peersReachRow : OpenClaim := { program := "ytdbodnpfeiplgaa", sum := "f2b4452fc941cf112f59fa646b3d5e41b4da7414c03332538e591d02c796b0e7", func := "ringer/ringerlaw22.PeersReach", spec := "peersReach", unfollowed := true, recurses := true, apart := false }
def PeersReachSaid : Prop := peersReachRow.holds Try.pinned (OpenSpec.ofChange peersReachSpec)

/-- ITS FALSE NEIGHBOUR: 'it returns false'. Refute it at one input. -/
def peersReachWrong : ChangeSpec := { name := "peersReach", fn := fun _ => fun
  | [d1, d2, d3, d4] => { results := [.lit (.bool false)], args := [d1, d2, d3, d4] }
  | _ => none }
def PeersReachWrongFalsely : Prop := peersReachRow.holds Try.pinned (OpenSpec.ofChange peersReachWrong)

/-- 'ringerlaw22.PeersAsks': WHATEVER THE INPUT: true; the input reads as it did. -/
def peersAsksSpec : ChangeSpec := { name := "peersAsks", fn := fun _ => fun
  | [d1, d2, d3, d4, d5, d6] => { results := [.lit (.bool true)], args := [d1, d2, d3, d4, d5, d6] }
  | _ => none }
def peersAsksRow : OpenClaim := { program := "ytdbodnpfeiplgaa", sum := "f2b4452fc941cf112f59fa646b3d5e41b4da7414c03332538e591d02c796b0e7", func := "ringer/ringerlaw22.PeersAsks", spec := "peersAsks", unfollowed := true, recurses := true, apart := false }
def PeersAsksSaid : Prop := peersAsksRow.holds Try.pinned (OpenSpec.ofChange peersAsksSpec)

/-- ITS FALSE NEIGHBOUR: 'it returns false'. Refute it at one input. -/
def peersAsksWrong : ChangeSpec := { name := "peersAsks", fn := fun _ => fun
  | [d1, d2, d3, d4, d5, d6] => { results := [.lit (.bool false)], args := [d1, d2, d3, d4, d5, d6] }
  | _ => none }
def PeersAsksWrongFalsely : Prop := peersAsksRow.holds Try.pinned (OpenSpec.ofChange peersAsksWrong)

/-- 'ringerlaw22.PeersMeet': WHATEVER THE INPUT: true; the input reads as it did. -/
def peersMeetSpec : ChangeSpec := { name := "peersMeet", fn := fun _ => fun
  | [d1, d2, d3, d4, d5] => { results := [.lit (.bool true)], args := [d1, d2, d3, d4, d5] }
  | _ => none }
def peersMeetRow : OpenClaim := { program := "ytdbodnpfeiplgaa", sum := "f2b4452fc941cf112f59fa646b3d5e41b4da7414c03332538e591d02c796b0e7", func := "ringer/ringerlaw22.PeersMeet", spec := "peersMeet", unfollowed := true, recurses := true, apart := false }
def PeersMeetSaid : Prop := peersMeetRow.holds Try.pinned (OpenSpec.ofChange peersMeetSpec)

/-- ITS FALSE NEIGHBOUR: 'it returns false'. Refute it at one input. -/
def peersMeetWrong : ChangeSpec := { name := "peersMeet", fn := fun _ => fun
  | [d1, d2, d3, d4, d5] => { results := [.lit (.bool false)], args := [d1, d2, d3, d4, d5] }
  | _ => none }
def PeersMeetWrongFalsely : Prop := peersMeetRow.holds Try.pinned (OpenSpec.ofChange peersMeetWrong)

/- THE SECOND FORM. 'bulk': how many values and letters a reading holds, each counted each time it is reached (what is shared counts as often as it is met; a slice's spare places count too). A statement '..UptoSaid' is the law's where the arguments, and the package variables that the reading takes, are together of bulk at most 1048576: NARROWER than '..Said'. Prove '..Said' where nothing that the law and all that it calls make is longer than what came in: it says more and counts as full. Else prove '..UptoSaid'. A law counts once. -/
mutual
def uptoBulk {H : Type} : DataW H → Nat
  | .lit (.string bytes) => bytes.length + 1
  | .lit _ => 1
  | .nil => 1
  | .ptr d => uptoBulk d + 1
  | .slice elems spare => uptoBulkAll elems + uptoBulkAll spare + 1
  | .agg parts => uptoBulkAll parts + 1
  | .iface _ d => uptoBulk d + 1
  | .map entries => uptoBulkEntries entries + 1
  | .held _ => 1
def uptoBulkAll {H : Type} : List (DataW H) → Nat
  | [] => 0
  | d :: r => uptoBulk d + uptoBulkAll r
def uptoBulkEntries {H : Type} : List (Lit × DataW H) → Nat
  | [] => 0
  | x :: r => uptoBulkEntry x + uptoBulkEntries r
def uptoBulkEntry {H : Type} : Lit × DataW H → Nat
  | (.string bytes, d) => bytes.length + uptoBulk d + 1
  | (_, d) => uptoBulk d + 1
 end
def uptoSmall : (H : Type) → List (DataW H) → Bool := fun _ ds => decide (uptoBulkAll ds ≤ 1048576)
def OpenSpec.upto (s : _root_.Go.ChangeSpec) : _root_.Go.OpenSpec := { _root_.Go.OpenSpec.ofChange s with cond := some uptoSmall }

/-- 'ringerlaw22.PeersReach', WHERE WHAT IT READS IS OF BULK AT MOST 1048576: true; the input reads as it did. -/
def peersReachUptoRow : OpenClaim := { program := "ytdbodnpfeiplgaa", sum := "f2b4452fc941cf112f59fa646b3d5e41b4da7414c03332538e591d02c796b0e7", func := "ringer/ringerlaw22.PeersReach", spec := "peersReach", unfollowed := true, recurses := true, apart := false, narrowed := true }
def PeersReachUptoSaid : Prop := peersReachUptoRow.holds Try.pinned (OpenSpec.upto peersReachSpec)

/-- 'ringerlaw22.PeersAsks', WHERE WHAT IT READS IS OF BULK AT MOST 1048576: true; the input reads as it did. -/
def peersAsksUptoRow : OpenClaim := { program := "ytdbodnpfeiplgaa", sum := "f2b4452fc941cf112f59fa646b3d5e41b4da7414c03332538e591d02c796b0e7", func := "ringer/ringerlaw22.PeersAsks", spec := "peersAsks", unfollowed := true, recurses := true, apart := false, narrowed := true }
def PeersAsksUptoSaid : Prop := peersAsksUptoRow.holds Try.pinned (OpenSpec.upto peersAsksSpec)

/-- 'ringerlaw22.PeersMeet', WHERE WHAT IT READS IS OF BULK AT MOST 1048576: true; the input reads as it did. -/
def peersMeetUptoRow : OpenClaim := { program := "ytdbodnpfeiplgaa", sum := "f2b4452fc941cf112f59fa646b3d5e41b4da7414c03332538e591d02c796b0e7", func := "ringer/ringerlaw22.PeersMeet", spec := "peersMeet", unfollowed := true, recurses := true, apart := false, narrowed := true }
def PeersMeetUptoSaid : Prop := peersMeetUptoRow.holds Try.pinned (OpenSpec.upto peersMeetSpec)

end Rows
end Go.Proofs.Ytdbodnpfeiplgaa
