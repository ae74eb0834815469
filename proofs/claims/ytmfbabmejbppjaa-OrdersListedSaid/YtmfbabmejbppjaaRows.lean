/-
  No cell of these rows narrows 'for every input' (looked for: loops, veiled, ifaces, maps, wideKeys, modest, calm, conditions, laid).
  DERIVED. THE GIVEN ROWS OF THIS SEAT. 6 by the template 'for every input the law returns true; each argument reads behind the call as it read before'; 0 by the template 'total and deterministic' (their statements: YtmfbabmejbppjaaTotals.lean).
  GIVEN WITH THE SEED: the statements are not yours to turn. If you find one false, say at which input.
  Laid BY PROGRAM, IN A SANDBOX (cutbox-rows.mjs): the forced cells as the released guide's own fill.sh prints them over the translation 1f5678ea2f4cee55… (all of the seat's roots in one cut). By AI agents, Wed Nov 11 2026. No macro, syntax, notation, axiom, sorry.
-/
import Derived.Test.YtmfbabmejbppjaaChecked
import GoSem.Claim
import GoSem.ClaimJoined
import GoSem.ClaimMapViews
import Derived.JoinedTies
import Derived.KernelRfl
namespace Go.Proofs.Ytmfbabmejbppjaa
/- THE CELL 'sum', in the pinned program and in every row, IS THE sha256 OF THE DUMP (.gsa) THAT YtmfbabmejbppjaaProg.lean LOADS. Nothing in Lean hashes anything: it is a label: what it is worth is what the hold of that sum in a sandbox is worth. -/
noncomputable def Try.pinned : Pinned := { name := "ytmfbabmejbppjaa", sum := "1f5678ea2f4cee5581b17a9160a92bda950f8630bf1cc4c1b2a6d3a92b05bd7e", checked := Try.checked }
namespace Rows
def none {H : Type} : Left H := { results := [], args := [] }

/-- 'frankinglaw18.OrdersSpec': WHATEVER THE INPUT: true; the input reads as it did. -/
def ordersSpecSpec : ChangeSpec := { name := "ordersSpec", fn := fun _ => fun
  | [d1, d2] => { results := [.lit (.bool true)], args := [d1, d2] }
  | _ => none }
def ordersSpecRow : OpenClaim := { program := "ytmfbabmejbppjaa", sum := "1f5678ea2f4cee5581b17a9160a92bda950f8630bf1cc4c1b2a6d3a92b05bd7e", func := "franking/frankinglaw18.OrdersSpec", spec := "ordersSpec", inPlace := ["internal/bytealg.IndexByteString"], unfollowed := true, recurses := true, apart := false }
def OrdersSpecSaid : Prop := ordersSpecRow.holds Try.pinned (OpenSpec.ofChange ordersSpecSpec)

/-- ITS FALSE NEIGHBOUR: 'it returns false'. Refute it at one input. -/
def ordersSpecWrong : ChangeSpec := { name := "ordersSpec", fn := fun _ => fun
  | [d1, d2] => { results := [.lit (.bool false)], args := [d1, d2] }
  | _ => none }
def OrdersSpecWrongFalsely : Prop := ordersSpecRow.holds Try.pinned (OpenSpec.ofChange ordersSpecWrong)

/-- 'frankinglaw18.OrdersRightSpec': WHATEVER THE INPUT: true; the input reads as it did. -/
def ordersRightSpecSpec : ChangeSpec := { name := "ordersRightSpec", fn := fun _ => fun
  | [d1, d2, d3, d4] => { results := [.lit (.bool true)], args := [d1, d2, d3, d4] }
  | _ => none }
def ordersRightSpecRow : OpenClaim := { program := "ytmfbabmejbppjaa", sum := "1f5678ea2f4cee5581b17a9160a92bda950f8630bf1cc4c1b2a6d3a92b05bd7e", func := "franking/frankinglaw18.OrdersRightSpec", spec := "ordersRightSpec", inPlace := ["internal/bytealg.IndexByteString"], unfollowed := true, recurses := true, apart := false }
def OrdersRightSpecSaid : Prop := ordersRightSpecRow.holds Try.pinned (OpenSpec.ofChange ordersRightSpecSpec)

/-- ITS FALSE NEIGHBOUR: 'it returns false'. Refute it at one input. -/
def ordersRightSpecWrong : ChangeSpec := { name := "ordersRightSpec", fn := fun _ => fun
  | [d1, d2, d3, d4] => { results := [.lit (.bool false)], args := [d1, d2, d3, d4] }
  | _ => none }
def OrdersRightSpecWrongFalsely : Prop := ordersRightSpecRow.holds Try.pinned (OpenSpec.ofChange ordersRightSpecWrong)

/-- 'frankinglaw18.OrdersMean': WHATEVER THE INPUT: true; the input reads as it did. -/
def ordersMeanSpec : ChangeSpec := { name := "ordersMean", fn := fun _ => fun
  | [d1, d2] => { results := [.lit (.bool true)], args := [d1, d2] }
  | _ => none }
def ordersMeanRow : OpenClaim := { program := "ytmfbabmejbppjaa", sum := "1f5678ea2f4cee5581b17a9160a92bda950f8630bf1cc4c1b2a6d3a92b05bd7e", func := "franking/frankinglaw18.OrdersMean", spec := "ordersMean", inPlace := ["internal/bytealg.IndexByteString"], unfollowed := true, recurses := true, apart := false }
def OrdersMeanSaid : Prop := ordersMeanRow.holds Try.pinned (OpenSpec.ofChange ordersMeanSpec)

/-- ITS FALSE NEIGHBOUR: 'it returns false'. Refute it at one input. -/
def ordersMeanWrong : ChangeSpec := { name := "ordersMean", fn := fun _ => fun
  | [d1, d2] => { results := [.lit (.bool false)], args := [d1, d2] }
  | _ => none }
def OrdersMeanWrongFalsely : Prop := ordersMeanRow.holds Try.pinned (OpenSpec.ofChange ordersMeanWrong)

/-- 'frankinglaw18.OrdersEach': WHATEVER THE INPUT: true; the input reads as it did. -/
def ordersEachSpec : ChangeSpec := { name := "ordersEach", fn := fun _ => fun
  | [d1, d2] => { results := [.lit (.bool true)], args := [d1, d2] }
  | _ => none }
def ordersEachRow : OpenClaim := { program := "ytmfbabmejbppjaa", sum := "1f5678ea2f4cee5581b17a9160a92bda950f8630bf1cc4c1b2a6d3a92b05bd7e", func := "franking/frankinglaw18.OrdersEach", spec := "ordersEach", inPlace := ["internal/bytealg.IndexByteString"], unfollowed := true, recurses := true, apart := false }
def OrdersEachSaid : Prop := ordersEachRow.holds Try.pinned (OpenSpec.ofChange ordersEachSpec)

/-- ITS FALSE NEIGHBOUR: 'it returns false'. Refute it at one input. -/
def ordersEachWrong : ChangeSpec := { name := "ordersEach", fn := fun _ => fun
  | [d1, d2] => { results := [.lit (.bool false)], args := [d1, d2] }
  | _ => none }
def OrdersEachWrongFalsely : Prop := ordersEachRow.holds Try.pinned (OpenSpec.ofChange ordersEachWrong)

/-- 'frankinglaw18.OrdersAgainst': WHATEVER THE INPUT: true; the input reads as it did. -/
def ordersAgainstSpec : ChangeSpec := { name := "ordersAgainst", fn := fun _ => fun
  | [d1, d2, d3] => { results := [.lit (.bool true)], args := [d1, d2, d3] }
  | _ => none }
def ordersAgainstRow : OpenClaim := { program := "ytmfbabmejbppjaa", sum := "1f5678ea2f4cee5581b17a9160a92bda950f8630bf1cc4c1b2a6d3a92b05bd7e", func := "franking/frankinglaw18.OrdersAgainst", spec := "ordersAgainst", inPlace := ["internal/bytealg.IndexByteString"], unfollowed := true, recurses := true, apart := false }
def OrdersAgainstSaid : Prop := ordersAgainstRow.holds Try.pinned (OpenSpec.ofChange ordersAgainstSpec)

/-- ITS FALSE NEIGHBOUR: 'it returns false'. Refute it at one input. -/
def ordersAgainstWrong : ChangeSpec := { name := "ordersAgainst", fn := fun _ => fun
  | [d1, d2, d3] => { results := [.lit (.bool false)], args := [d1, d2, d3] }
  | _ => none }
def OrdersAgainstWrongFalsely : Prop := ordersAgainstRow.holds Try.pinned (OpenSpec.ofChange ordersAgainstWrong)

/-- 'frankinglaw18.OrdersListed': WHATEVER THE INPUT: true; the input reads as it did. -/
def ordersListedSpec : ChangeSpec := { name := "ordersListed", fn := fun _ => fun
  | [d1, d2, d3, d4] => { results := [.lit (.bool true)], args := [d1, d2, d3, d4] }
  | _ => none }
def ordersListedRow : OpenClaim := { program := "ytmfbabmejbppjaa", sum := "1f5678ea2f4cee5581b17a9160a92bda950f8630bf1cc4c1b2a6d3a92b05bd7e", func := "franking/frankinglaw18.OrdersListed", spec := "ordersListed", inPlace := ["internal/bytealg.IndexByteString"], unfollowed := true, recurses := true, apart := false }
def OrdersListedSaid : Prop := ordersListedRow.holds Try.pinned (OpenSpec.ofChange ordersListedSpec)

/-- ITS FALSE NEIGHBOUR: 'it returns false'. Refute it at one input. -/
def ordersListedWrong : ChangeSpec := { name := "ordersListed", fn := fun _ => fun
  | [d1, d2, d3, d4] => { results := [.lit (.bool false)], args := [d1, d2, d3, d4] }
  | _ => none }
def OrdersListedWrongFalsely : Prop := ordersListedRow.holds Try.pinned (OpenSpec.ofChange ordersListedWrong)

/- THE SECOND FORM. 'bulk': how many values and letters a reading holds, each counted each time it is reached (what is shared counts as often as it is met; a slice's spare places count too). A statement '..UptoSaid' is the law's where the arguments, and the package variables that the reading takes, are together of bulk at most 1048576: NARROWER than '..Said'. Prove '..Said' where nothing that the law and all that it calls make is longer than what came in: it says more and counts as full. Else prove '..UptoSaid'. A law counts once. -/
mutual
def uptoBulk {H : Type} : DataW H → Nat
  | .lit (.string bytes) => bytes.length + 1
  | .lit _ => 1
  | .nil => 1
  | .ptr d => uptoBulk d + 1
  | .slice elems spare => uptoBulkAll elems + uptoBulkAll spare + 1
  | .agg parts => uptoBulkAll parts + 1
  | .iface _ d => uptoBulk d + 1
  | .map entries => uptoBulkEntries entries + 1
  | .held _ => 1
def uptoBulkAll {H : Type} : List (DataW H) → Nat
  | [] => 0
  | d :: r => uptoBulk d + uptoBulkAll r
def uptoBulkEntries {H : Type} : List (Lit × DataW H) → Nat
  | [] => 0
  | x :: r => uptoBulkEntry x + uptoBulkEntries r
def uptoBulkEntry {H : Type} : Lit × DataW H → Nat
  | (.string bytes, d) => bytes.length + uptoBulk d + 1
  | (_, d) => uptoBulk d + 1
 end
def uptoSmall : (H : Type) → List (DataW H) → Bool := fun _ ds => decide (uptoBulkAll ds ≤ 1048576)
def OpenSpec.upto (s : _root_.Go.ChangeSpec) : _root_.Go.OpenSpec := { _root_.Go.OpenSpec.ofChange s with cond := some uptoSmall }

/-- 'frankinglaw18.OrdersSpec', WHERE WHAT IT READS IS OF BULK AT MOST 1048576: true; the input reads as it did. -/
def ordersSpecUptoRow : OpenClaim := { program := "ytmfbabmejbppjaa", sum := "1f5678ea2f4cee5581b17a9160a92bda950f8630bf1cc4c1b2a6d3a92b05bd7e", func := "franking/frankinglaw18.OrdersSpec", spec := "ordersSpec", inPlace := ["internal/bytealg.IndexByteString"], unfollowed := true, recurses := true, apart := false, narrowed := true }
def OrdersSpecUptoSaid : Prop := ordersSpecUptoRow.holds Try.pinned (OpenSpec.upto ordersSpecSpec)

/-- 'frankinglaw18.OrdersRightSpec', WHERE WHAT IT READS IS OF BULK AT MOST 1048576: true; the input reads as it did. -/
def ordersRightSpecUptoRow : OpenClaim := { program := "ytmfbabmejbppjaa", sum := "1f5678ea2f4cee5581b17a9160a92bda950f8630bf1cc4c1b2a6d3a92b05bd7e", func := "franking/frankinglaw18.OrdersRightSpec", spec := "ordersRightSpec", inPlace := ["internal/bytealg.IndexByteString"], unfollowed := true, recurses := true, apart := false, narrowed := true }
def OrdersRightSpecUptoSaid : Prop := ordersRightSpecUptoRow.holds Try.pinned (OpenSpec.upto ordersRightSpecSpec)

/-- 'frankinglaw18.OrdersMean', WHERE WHAT IT READS IS OF BULK AT MOST 1048576: true; the input reads as it did. -/
def ordersMeanUptoRow : OpenClaim := { program := "ytmfbabmejbppjaa", sum := "1f5678ea2f4cee5581b17a9160a92bda950f8630bf1cc4c1b2a6d3a92b05bd7e", func := "franking/frankinglaw18.OrdersMean", spec := "ordersMean", inPlace := ["internal/bytealg.IndexByteString"], unfollowed := true, recurses := true, apart := false, narrowed := true }
def OrdersMeanUptoSaid : Prop := ordersMeanUptoRow.holds Try.pinned (OpenSpec.upto ordersMeanSpec)

/-- 'frankinglaw18.OrdersEach', WHERE WHAT IT READS IS OF BULK AT MOST 1048576: true; the input reads as it did. -/
def ordersEachUptoRow : OpenClaim := { program := "ytmfbabmejbppjaa", sum := "1f5678ea2f4cee5581b17a9160a92bda950f8630bf1cc4c1b2a6d3a92b05bd7e", func := "franking/frankinglaw18.OrdersEach", spec := "ordersEach", inPlace := ["internal/bytealg.IndexByteString"], unfollowed := true, recurses := true, apart := false, narrowed := true }
def OrdersEachUptoSaid : Prop := ordersEachUptoRow.holds Try.pinned (OpenSpec.upto ordersEachSpec)

/-- 'frankinglaw18.OrdersAgainst', WHERE WHAT IT READS IS OF BULK AT MOST 1048576: true; the input reads as it did. -/
def ordersAgainstUptoRow : OpenClaim := { program := "ytmfbabmejbppjaa", sum := "1f5678ea2f4cee5581b17a9160a92bda950f8630bf1cc4c1b2a6d3a92b05bd7e", func := "franking/frankinglaw18.OrdersAgainst", spec := "ordersAgainst", inPlace := ["internal/bytealg.IndexByteString"], unfollowed := true, recurses := true, apart := false, narrowed := true }
def OrdersAgainstUptoSaid : Prop := ordersAgainstUptoRow.holds Try.pinned (OpenSpec.upto ordersAgainstSpec)

/-- 'frankinglaw18.OrdersListed', WHERE WHAT IT READS IS OF BULK AT MOST 1048576: true; the input reads as it did. -/
def ordersListedUptoRow : OpenClaim := { program := "ytmfbabmejbppjaa", sum := "1f5678ea2f4cee5581b17a9160a92bda950f8630bf1cc4c1b2a6d3a92b05bd7e", func := "franking/frankinglaw18.OrdersListed", spec := "ordersListed", inPlace := ["internal/bytealg.IndexByteString"], unfollowed := true, recurses := true, apart := false, narrowed := true }
def OrdersListedUptoSaid : Prop := ordersListedUptoRow.holds Try.pinned (OpenSpec.upto ordersListedSpec)

end Rows
end Go.Proofs.Ytmfbabmejbppjaa
