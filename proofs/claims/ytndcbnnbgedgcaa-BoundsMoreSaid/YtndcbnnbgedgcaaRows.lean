/-
  No cell of these rows narrows 'for every input' (looked for: loops, veiled, ifaces, maps, wideKeys, modest, calm, conditions, laid).
  DERIVED. THE GIVEN ROWS OF THIS SEAT. 8 by the template 'for every input the law returns true; each argument reads behind the call as it read before'; 0 by the template 'total and deterministic' (their statements: YtndcbnnbgedgcaaTotals.lean).
  GIVEN WITH THE SEED: the statements are not yours to turn. If you find one false, say at which input.
  Laid BY PROGRAM, IN A SANDBOX (cutbox-rows.mjs): the forced cells as the released guide's own fill.sh prints them over the translation 032fcfae3b11cc54… (all of the seat's roots in one cut). By AI agents, Wed Nov 11 2026. No macro, syntax, notation, axiom, sorry.
-/
import Derived.Test.YtndcbnnbgedgcaaChecked
import GoSem.Claim
import GoSem.ClaimJoined
import GoSem.ClaimMapViews
import Derived.JoinedTies
import Derived.KernelRfl
namespace Go.Proofs.Ytndcbnnbgedgcaa
/- THE CELL 'sum', in the pinned program and in every row, IS THE sha256 OF THE DUMP (.gsa) THAT YtndcbnnbgedgcaaProg.lean LOADS. Nothing in Lean hashes anything: it is a label: what it is worth is what the hold of that sum in a sandbox is worth. -/
noncomputable def Try.pinned : Pinned := { name := "ytndcbnnbgedgcaa", sum := "032fcfae3b11cc54227633695fd59364ee66b352699f8bb08deb9dba6ae60462", checked := Try.checked }
namespace Rows
def none {H : Type} : Left H := { results := [], args := [] }

/-- 'frankinglaw31.PromiseSpec': WHATEVER THE INPUT: true; the input reads as it did. -/
def promiseSpecSpec : ChangeSpec := { name := "promiseSpec", fn := fun _ => fun
  | [d1, d2, d3] => { results := [.lit (.bool true)], args := [d1, d2, d3] }
  | _ => none }
def promiseSpecRow : OpenClaim := { program := "ytndcbnnbgedgcaa", sum := "032fcfae3b11cc54227633695fd59364ee66b352699f8bb08deb9dba6ae60462", func := "franking/frankinglaw31.PromiseSpec", spec := "promiseSpec", unfollowed := true, recurses := true, apart := false }
def PromiseSpecSaid : Prop := promiseSpecRow.holds Try.pinned (OpenSpec.ofChange promiseSpecSpec)

/-- ITS FALSE NEIGHBOUR: 'it returns false'. Refute it at one input. -/
def promiseSpecWrong : ChangeSpec := { name := "promiseSpec", fn := fun _ => fun
  | [d1, d2, d3] => { results := [.lit (.bool false)], args := [d1, d2, d3] }
  | _ => none }
def PromiseSpecWrongFalsely : Prop := promiseSpecRow.holds Try.pinned (OpenSpec.ofChange promiseSpecWrong)

/-- 'frankinglaw31.PromiseSinceSpec': WHATEVER THE INPUT: true; the input reads as it did. -/
def promiseSinceSpecSpec : ChangeSpec := { name := "promiseSinceSpec", fn := fun _ => fun
  | [d1, d2, d3] => { results := [.lit (.bool true)], args := [d1, d2, d3] }
  | _ => none }
def promiseSinceSpecRow : OpenClaim := { program := "ytndcbnnbgedgcaa", sum := "032fcfae3b11cc54227633695fd59364ee66b352699f8bb08deb9dba6ae60462", func := "franking/frankinglaw31.PromiseSinceSpec", spec := "promiseSinceSpec", unfollowed := true, recurses := true, apart := false }
def PromiseSinceSpecSaid : Prop := promiseSinceSpecRow.holds Try.pinned (OpenSpec.ofChange promiseSinceSpecSpec)

/-- ITS FALSE NEIGHBOUR: 'it returns false'. Refute it at one input. -/
def promiseSinceSpecWrong : ChangeSpec := { name := "promiseSinceSpec", fn := fun _ => fun
  | [d1, d2, d3] => { results := [.lit (.bool false)], args := [d1, d2, d3] }
  | _ => none }
def PromiseSinceSpecWrongFalsely : Prop := promiseSinceSpecRow.holds Try.pinned (OpenSpec.ofChange promiseSinceSpecWrong)

/-- 'frankinglaw31.PromiseBroken': WHATEVER THE INPUT: true; the input reads as it did. -/
def promiseBrokenSpec : ChangeSpec := { name := "promiseBroken", fn := fun _ => fun
  | [d1, d2] => { results := [.lit (.bool true)], args := [d1, d2] }
  | _ => none }
def promiseBrokenRow : OpenClaim := { program := "ytndcbnnbgedgcaa", sum := "032fcfae3b11cc54227633695fd59364ee66b352699f8bb08deb9dba6ae60462", func := "franking/frankinglaw31.PromiseBroken", spec := "promiseBroken", unfollowed := true, recurses := true, apart := false }
def PromiseBrokenSaid : Prop := promiseBrokenRow.holds Try.pinned (OpenSpec.ofChange promiseBrokenSpec)

/-- ITS FALSE NEIGHBOUR: 'it returns false'. Refute it at one input. -/
def promiseBrokenWrong : ChangeSpec := { name := "promiseBroken", fn := fun _ => fun
  | [d1, d2] => { results := [.lit (.bool false)], args := [d1, d2] }
  | _ => none }
def PromiseBrokenWrongFalsely : Prop := promiseBrokenRow.holds Try.pinned (OpenSpec.ofChange promiseBrokenWrong)

/-- 'frankinglaw31.PromiseSince': WHATEVER THE INPUT: true; the input reads as it did. -/
def promiseSinceSpec : ChangeSpec := { name := "promiseSince", fn := fun _ => fun
  | [d1, d2, d3, d4] => { results := [.lit (.bool true)], args := [d1, d2, d3, d4] }
  | _ => none }
def promiseSinceRow : OpenClaim := { program := "ytndcbnnbgedgcaa", sum := "032fcfae3b11cc54227633695fd59364ee66b352699f8bb08deb9dba6ae60462", func := "franking/frankinglaw31.PromiseSince", spec := "promiseSince", unfollowed := true, recurses := true, apart := false }
def PromiseSinceSaid : Prop := promiseSinceRow.holds Try.pinned (OpenSpec.ofChange promiseSinceSpec)

/-- ITS FALSE NEIGHBOUR: 'it returns false'. Refute it at one input. -/
def promiseSinceWrong : ChangeSpec := { name := "promiseSince", fn := fun _ => fun
  | [d1, d2, d3, d4] => { results := [.lit (.bool false)], args := [d1, d2, d3, d4] }
  | _ => none }
def PromiseSinceWrongFalsely : Prop := promiseSinceRow.holds Try.pinned (OpenSpec.ofChange promiseSinceWrong)

/-- 'frankinglaw31.PromiseMore': WHATEVER THE INPUT: true; the input reads as it did. -/
def promiseMoreSpec : ChangeSpec := { name := "promiseMore", fn := fun _ => fun
  | [d1, d2, d3, d4] => { results := [.lit (.bool true)], args := [d1, d2, d3, d4] }
  | _ => none }
def promiseMoreRow : OpenClaim := { program := "ytndcbnnbgedgcaa", sum := "032fcfae3b11cc54227633695fd59364ee66b352699f8bb08deb9dba6ae60462", func := "franking/frankinglaw31.PromiseMore", spec := "promiseMore", unfollowed := true, recurses := true, apart := false }
def PromiseMoreSaid : Prop := promiseMoreRow.holds Try.pinned (OpenSpec.ofChange promiseMoreSpec)

/-- ITS FALSE NEIGHBOUR: 'it returns false'. Refute it at one input. -/
def promiseMoreWrong : ChangeSpec := { name := "promiseMore", fn := fun _ => fun
  | [d1, d2, d3, d4] => { results := [.lit (.bool false)], args := [d1, d2, d3, d4] }
  | _ => none }
def PromiseMoreWrongFalsely : Prop := promiseMoreRow.holds Try.pinned (OpenSpec.ofChange promiseMoreWrong)

/-- 'frankinglaw31.PromiseViews': WHATEVER THE INPUT: true; the input reads as it did. -/
def promiseViewsSpec : ChangeSpec := { name := "promiseViews", fn := fun _ => fun
  | [d1, d2, d3, d4, d5] => { results := [.lit (.bool true)], args := [d1, d2, d3, d4, d5] }
  | _ => none }
def promiseViewsRow : OpenClaim := { program := "ytndcbnnbgedgcaa", sum := "032fcfae3b11cc54227633695fd59364ee66b352699f8bb08deb9dba6ae60462", func := "franking/frankinglaw31.PromiseViews", spec := "promiseViews", unfollowed := true, recurses := true, apart := false }
def PromiseViewsSaid : Prop := promiseViewsRow.holds Try.pinned (OpenSpec.ofChange promiseViewsSpec)

/-- ITS FALSE NEIGHBOUR: 'it returns false'. Refute it at one input. -/
def promiseViewsWrong : ChangeSpec := { name := "promiseViews", fn := fun _ => fun
  | [d1, d2, d3, d4, d5] => { results := [.lit (.bool false)], args := [d1, d2, d3, d4, d5] }
  | _ => none }
def PromiseViewsWrongFalsely : Prop := promiseViewsRow.holds Try.pinned (OpenSpec.ofChange promiseViewsWrong)

/-- 'frankinglaw28.BoundsSpec': WHATEVER THE INPUT: true; the input reads as it did. -/
def boundsSpecSpec : ChangeSpec := { name := "boundsSpec", fn := fun _ => fun
  | [d] => { results := [.lit (.bool true)], args := [d] }
  | _ => none }
def boundsSpecRow : OpenClaim := { program := "ytndcbnnbgedgcaa", sum := "032fcfae3b11cc54227633695fd59364ee66b352699f8bb08deb9dba6ae60462", func := "franking/frankinglaw28.BoundsSpec", spec := "boundsSpec", unfollowed := true, recurses := true, apart := false }
def BoundsSpecSaid : Prop := boundsSpecRow.holds Try.pinned (OpenSpec.ofChange boundsSpecSpec)

/-- ITS FALSE NEIGHBOUR: 'it returns false'. Refute it at one input. -/
def boundsSpecWrong : ChangeSpec := { name := "boundsSpec", fn := fun _ => fun
  | [d] => { results := [.lit (.bool false)], args := [d] }
  | _ => none }
def BoundsSpecWrongFalsely : Prop := boundsSpecRow.holds Try.pinned (OpenSpec.ofChange boundsSpecWrong)

/-- 'frankinglaw28.BoundsMore': WHATEVER THE INPUT: true; the input reads as it did. -/
def boundsMoreSpec : ChangeSpec := { name := "boundsMore", fn := fun _ => fun
  | [d1, d2] => { results := [.lit (.bool true)], args := [d1, d2] }
  | _ => none }
def boundsMoreRow : OpenClaim := { program := "ytndcbnnbgedgcaa", sum := "032fcfae3b11cc54227633695fd59364ee66b352699f8bb08deb9dba6ae60462", func := "franking/frankinglaw28.BoundsMore", spec := "boundsMore", unfollowed := true, recurses := true, apart := false }
def BoundsMoreSaid : Prop := boundsMoreRow.holds Try.pinned (OpenSpec.ofChange boundsMoreSpec)

/-- ITS FALSE NEIGHBOUR: 'it returns false'. Refute it at one input. -/
def boundsMoreWrong : ChangeSpec := { name := "boundsMore", fn := fun _ => fun
  | [d1, d2] => { results := [.lit (.bool false)], args := [d1, d2] }
  | _ => none }
def BoundsMoreWrongFalsely : Prop := boundsMoreRow.holds Try.pinned (OpenSpec.ofChange boundsMoreWrong)

/- THE SECOND FORM. 'bulk': how many values and letters a reading holds, each counted each time it is reached (what is shared counts as often as it is met; a slice's spare places count too). A statement '..UptoSaid' is the law's where the arguments, and the package variables that the reading takes, are together of bulk at most 1048576: NARROWER than '..Said'. Prove '..Said' where nothing that the law and all that it calls make is longer than what came in: it says more and counts as full. Else prove '..UptoSaid'. A law counts once. -/
mutual
def uptoBulk {H : Type} : DataW H → Nat
  | .lit (.string bytes) => bytes.length + 1
  | .lit _ => 1
  | .nil => 1
  | .ptr d => uptoBulk d + 1
  | .slice elems spare => uptoBulkAll elems + uptoBulkAll spare + 1
  | .agg parts => uptoBulkAll parts + 1
  | .iface _ d => uptoBulk d + 1
  | .map entries => uptoBulkEntries entries + 1
  | .held _ => 1
def uptoBulkAll {H : Type} : List (DataW H) → Nat
  | [] => 0
  | d :: r => uptoBulk d + uptoBulkAll r
def uptoBulkEntries {H : Type} : List (Lit × DataW H) → Nat
  | [] => 0
  | x :: r => uptoBulkEntry x + uptoBulkEntries r
def uptoBulkEntry {H : Type} : Lit × DataW H → Nat
  | (.string bytes, d) => bytes.length + uptoBulk d + 1
  | (_, d) => uptoBulk d + 1
 end
def uptoSmall : (H : Type) → List (DataW H) → Bool := fun _ ds => decide (uptoBulkAll ds ≤ 1048576)
def OpenSpec.upto (s : _root_.Go.ChangeSpec) : _root_.Go.OpenSpec := { _root_.Go.OpenSpec.ofChange s with cond := some uptoSmall }

/-- 'frankinglaw31.PromiseSpec', WHERE WHAT IT READS IS OF BULK AT MOST 1048576: true; the input reads as it did. -/
def promiseSpecUptoRow : OpenClaim := { program := "ytndcbnnbgedgcaa", sum := "032fcfae3b11cc54227633695fd59364ee66b352699f8bb08deb9dba6ae60462", func := "franking/frankinglaw31.PromiseSpec", spec := "promiseSpec", unfollowed := true, recurses := true, apart := false, narrowed := true }
def PromiseSpecUptoSaid : Prop := promiseSpecUptoRow.holds Try.pinned (OpenSpec.upto promiseSpecSpec)

/-- 'frankinglaw31.PromiseSinceSpec', WHERE WHAT IT READS IS OF BULK AT MOST 1048576: true; the input reads as it did. -/
def promiseSinceSpecUptoRow : OpenClaim := { program := "ytndcbnnbgedgcaa", sum := "032fcfae3b11cc54227633695fd59364ee66b352699f8bb08deb9dba6ae60462", func := "franking/frankinglaw31.PromiseSinceSpec", spec := "promiseSinceSpec", unfollowed := true, recurses := true, apart := false, narrowed := true }
def PromiseSinceSpecUptoSaid : Prop := promiseSinceSpecUptoRow.holds Try.pinned (OpenSpec.upto promiseSinceSpecSpec)

/-- 'frankinglaw31.PromiseBroken', WHERE WHAT IT READS IS OF BULK AT MOST 1048576: true; the input reads as it did. -/
def promiseBrokenUptoRow : OpenClaim := { program := "ytndcbnnbgedgcaa", sum := "032fcfae3b11cc54227633695fd59364ee66b352699f8bb08deb9dba6ae60462", func := "franking/frankinglaw31.PromiseBroken", spec := "promiseBroken", unfollowed := true, recurses := true, apart := false, narrowed := true }
def PromiseBrokenUptoSaid : Prop := promiseBrokenUptoRow.holds Try.pinned (OpenSpec.upto promiseBrokenSpec)

/-- 'frankinglaw31.PromiseSince', WHERE WHAT IT READS IS OF BULK AT MOST 1048576: true; the input reads as it did. -/
def promiseSinceUptoRow : OpenClaim := { program := "ytndcbnnbgedgcaa", sum := "032fcfae3b11cc54227633695fd59364ee66b352699f8bb08deb9dba6ae60462", func := "franking/frankinglaw31.PromiseSince", spec := "promiseSince", unfollowed := true, recurses := true, apart := false, narrowed := true }
def PromiseSinceUptoSaid : Prop := promiseSinceUptoRow.holds Try.pinned (OpenSpec.upto promiseSinceSpec)

/-- 'frankinglaw31.PromiseMore', WHERE WHAT IT READS IS OF BULK AT MOST 1048576: true; the input reads as it did. -/
def promiseMoreUptoRow : OpenClaim := { program := "ytndcbnnbgedgcaa", sum := "032fcfae3b11cc54227633695fd59364ee66b352699f8bb08deb9dba6ae60462", func := "franking/frankinglaw31.PromiseMore", spec := "promiseMore", unfollowed := true, recurses := true, apart := false, narrowed := true }
def PromiseMoreUptoSaid : Prop := promiseMoreUptoRow.holds Try.pinned (OpenSpec.upto promiseMoreSpec)

/-- 'frankinglaw31.PromiseViews', WHERE WHAT IT READS IS OF BULK AT MOST 1048576: true; the input reads as it did. -/
def promiseViewsUptoRow : OpenClaim := { program := "ytndcbnnbgedgcaa", sum := "032fcfae3b11cc54227633695fd59364ee66b352699f8bb08deb9dba6ae60462", func := "franking/frankinglaw31.PromiseViews", spec := "promiseViews", unfollowed := true, recurses := true, apart := false, narrowed := true }
def PromiseViewsUptoSaid : Prop := promiseViewsUptoRow.holds Try.pinned (OpenSpec.upto promiseViewsSpec)

/-- 'frankinglaw28.BoundsSpec', WHERE WHAT IT READS IS OF BULK AT MOST 1048576: true; the input reads as it did. -/
def boundsSpecUptoRow : OpenClaim := { program := "ytndcbnnbgedgcaa", sum := "032fcfae3b11cc54227633695fd59364ee66b352699f8bb08deb9dba6ae60462", func := "franking/frankinglaw28.BoundsSpec", spec := "boundsSpec", unfollowed := true, recurses := true, apart := false, narrowed := true }
def BoundsSpecUptoSaid : Prop := boundsSpecUptoRow.holds Try.pinned (OpenSpec.upto boundsSpecSpec)

/-- 'frankinglaw28.BoundsMore', WHERE WHAT IT READS IS OF BULK AT MOST 1048576: true; the input reads as it did. -/
def boundsMoreUptoRow : OpenClaim := { program := "ytndcbnnbgedgcaa", sum := "032fcfae3b11cc54227633695fd59364ee66b352699f8bb08deb9dba6ae60462", func := "franking/frankinglaw28.BoundsMore", spec := "boundsMore", unfollowed := true, recurses := true, apart := false, narrowed := true }
def BoundsMoreUptoSaid : Prop := boundsMoreUptoRow.holds Try.pinned (OpenSpec.upto boundsMoreSpec)

end Rows
end Go.Proofs.Ytndcbnnbgedgcaa
