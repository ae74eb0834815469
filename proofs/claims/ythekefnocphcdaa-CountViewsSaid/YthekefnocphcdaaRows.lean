/-
  No cell of these rows narrows 'for every input' (looked for: loops, veiled, ifaces, maps, wideKeys, modest, calm, conditions, laid).
  DERIVED. THE GIVEN ROWS OF THIS SEAT. 10 by the template 'for every input the law returns true; each argument reads behind the call as it read before'; 0 by the template 'total and deterministic' (their statements: YthekefnocphcdaaTotals.lean).
  GIVEN WITH THE SEED: the statements are not yours to turn. If you find one false, say at which input.
  Laid BY PROGRAM, IN A SANDBOX (cutbox-rows.mjs): the forced cells as the released guide's own fill.sh prints them over the translation 402ea07bf994ae4f… (all of the seat's roots in one cut). By AI agents, Wed Nov 11 2026. No macro, syntax, notation, axiom, sorry.
-/
import Derived.Test.YthekefnocphcdaaChecked
import GoSem.Claim
import GoSem.ClaimJoined
import GoSem.ClaimMapViews
import Derived.JoinedTies
import Derived.KernelRfl
namespace Go.Proofs.Ythekefnocphcdaa
/- THE CELL 'sum', in the pinned program and in every row, IS THE sha256 OF THE DUMP (.gsa) THAT YthekefnocphcdaaProg.lean LOADS. Nothing in Lean hashes anything: it is a label: what it is worth is what the hold of that sum in a sandbox is worth. -/
noncomputable def Try.pinned : Pinned := { name := "ythekefnocphcdaa", sum := "402ea07bf994ae4f9f0f12ba18bb2fcdacf2e2b20759c9a3c87f1753ecca0064", checked := Try.checked }
namespace Rows
def none {H : Type} : Left H := { results := [], args := [] }

/-- 'frankinglaw27.CountSpec': WHATEVER THE INPUT: true; the input reads as it did. -/
def countSpecSpec : ChangeSpec := { name := "countSpec", fn := fun _ => fun
  | [d] => { results := [.lit (.bool true)], args := [d] }
  | _ => none }
def countSpecRow : OpenClaim := { program := "ythekefnocphcdaa", sum := "402ea07bf994ae4f9f0f12ba18bb2fcdacf2e2b20759c9a3c87f1753ecca0064", func := "franking/frankinglaw27.CountSpec", spec := "countSpec", unfollowed := true, recurses := true, plainKeys := false, apart := false }
def CountSpecSaid : Prop := countSpecRow.holds Try.pinned (OpenSpec.ofChange countSpecSpec)

/-- ITS FALSE NEIGHBOUR: 'it returns false'. Refute it at one input. -/
def countSpecWrong : ChangeSpec := { name := "countSpec", fn := fun _ => fun
  | [d] => { results := [.lit (.bool false)], args := [d] }
  | _ => none }
def CountSpecWrongFalsely : Prop := countSpecRow.holds Try.pinned (OpenSpec.ofChange countSpecWrong)

/-- 'frankinglaw27.CountPossibleSpec': WHATEVER THE INPUT: true; the input reads as it did. -/
def countPossibleSpecSpec : ChangeSpec := { name := "countPossibleSpec", fn := fun _ => fun
  | [d1, d2] => { results := [.lit (.bool true)], args := [d1, d2] }
  | _ => none }
def countPossibleSpecRow : OpenClaim := { program := "ythekefnocphcdaa", sum := "402ea07bf994ae4f9f0f12ba18bb2fcdacf2e2b20759c9a3c87f1753ecca0064", func := "franking/frankinglaw27.CountPossibleSpec", spec := "countPossibleSpec", unfollowed := true, recurses := true, plainKeys := false, apart := false }
def CountPossibleSpecSaid : Prop := countPossibleSpecRow.holds Try.pinned (OpenSpec.ofChange countPossibleSpecSpec)

/-- ITS FALSE NEIGHBOUR: 'it returns false'. Refute it at one input. -/
def countPossibleSpecWrong : ChangeSpec := { name := "countPossibleSpec", fn := fun _ => fun
  | [d1, d2] => { results := [.lit (.bool false)], args := [d1, d2] }
  | _ => none }
def CountPossibleSpecWrongFalsely : Prop := countPossibleSpecRow.holds Try.pinned (OpenSpec.ofChange countPossibleSpecWrong)

/-- 'frankinglaw27.CountUnion': WHATEVER THE INPUT: true; the input reads as it did. -/
def countUnionSpec : ChangeSpec := { name := "countUnion", fn := fun _ => fun
  | [d1, d2] => { results := [.lit (.bool true)], args := [d1, d2] }
  | _ => none }
def countUnionRow : OpenClaim := { program := "ythekefnocphcdaa", sum := "402ea07bf994ae4f9f0f12ba18bb2fcdacf2e2b20759c9a3c87f1753ecca0064", func := "franking/frankinglaw27.CountUnion", spec := "countUnion", unfollowed := true, recurses := true, plainKeys := false, apart := false }
def CountUnionSaid : Prop := countUnionRow.holds Try.pinned (OpenSpec.ofChange countUnionSpec)

/-- ITS FALSE NEIGHBOUR: 'it returns false'. Refute it at one input. -/
def countUnionWrong : ChangeSpec := { name := "countUnion", fn := fun _ => fun
  | [d1, d2] => { results := [.lit (.bool false)], args := [d1, d2] }
  | _ => none }
def CountUnionWrongFalsely : Prop := countUnionRow.holds Try.pinned (OpenSpec.ofChange countUnionWrong)

/-- 'frankinglaw27.CountFurther': WHATEVER THE INPUT: true; the input reads as it did. -/
def countFurtherSpec : ChangeSpec := { name := "countFurther", fn := fun _ => fun
  | [d1, d2, d3, d4] => { results := [.lit (.bool true)], args := [d1, d2, d3, d4] }
  | _ => none }
def countFurtherRow : OpenClaim := { program := "ythekefnocphcdaa", sum := "402ea07bf994ae4f9f0f12ba18bb2fcdacf2e2b20759c9a3c87f1753ecca0064", func := "franking/frankinglaw27.CountFurther", spec := "countFurther", unfollowed := true, recurses := true, plainKeys := false, apart := false }
def CountFurtherSaid : Prop := countFurtherRow.holds Try.pinned (OpenSpec.ofChange countFurtherSpec)

/-- ITS FALSE NEIGHBOUR: 'it returns false'. Refute it at one input. -/
def countFurtherWrong : ChangeSpec := { name := "countFurther", fn := fun _ => fun
  | [d1, d2, d3, d4] => { results := [.lit (.bool false)], args := [d1, d2, d3, d4] }
  | _ => none }
def CountFurtherWrongFalsely : Prop := countFurtherRow.holds Try.pinned (OpenSpec.ofChange countFurtherWrong)

/-- 'frankinglaw27.CountEnds': WHATEVER THE INPUT: true; the input reads as it did. -/
def countEndsSpec : ChangeSpec := { name := "countEnds", fn := fun _ => fun
  | [d] => { results := [.lit (.bool true)], args := [d] }
  | _ => none }
def countEndsRow : OpenClaim := { program := "ythekefnocphcdaa", sum := "402ea07bf994ae4f9f0f12ba18bb2fcdacf2e2b20759c9a3c87f1753ecca0064", func := "franking/frankinglaw27.CountEnds", spec := "countEnds", unfollowed := true, recurses := true, plainKeys := false, apart := false }
def CountEndsSaid : Prop := countEndsRow.holds Try.pinned (OpenSpec.ofChange countEndsSpec)

/-- ITS FALSE NEIGHBOUR: 'it returns false'. Refute it at one input. -/
def countEndsWrong : ChangeSpec := { name := "countEnds", fn := fun _ => fun
  | [d] => { results := [.lit (.bool false)], args := [d] }
  | _ => none }
def CountEndsWrongFalsely : Prop := countEndsRow.holds Try.pinned (OpenSpec.ofChange countEndsWrong)

/-- 'frankinglaw27.CountKnown': WHATEVER THE INPUT: true; the input reads as it did. -/
def countKnownSpec : ChangeSpec := { name := "countKnown", fn := fun _ => fun
  | [d1, d2] => { results := [.lit (.bool true)], args := [d1, d2] }
  | _ => none }
def countKnownRow : OpenClaim := { program := "ythekefnocphcdaa", sum := "402ea07bf994ae4f9f0f12ba18bb2fcdacf2e2b20759c9a3c87f1753ecca0064", func := "franking/frankinglaw27.CountKnown", spec := "countKnown", unfollowed := true, recurses := true, plainKeys := false, apart := false }
def CountKnownSaid : Prop := countKnownRow.holds Try.pinned (OpenSpec.ofChange countKnownSpec)

/-- ITS FALSE NEIGHBOUR: 'it returns false'. Refute it at one input. -/
def countKnownWrong : ChangeSpec := { name := "countKnown", fn := fun _ => fun
  | [d1, d2] => { results := [.lit (.bool false)], args := [d1, d2] }
  | _ => none }
def CountKnownWrongFalsely : Prop := countKnownRow.holds Try.pinned (OpenSpec.ofChange countKnownWrong)

/-- 'frankinglaw27.CountViews': WHATEVER THE INPUT: true; the input reads as it did. -/
def countViewsSpec : ChangeSpec := { name := "countViews", fn := fun _ => fun
  | [d1, d2, d3, d4] => { results := [.lit (.bool true)], args := [d1, d2, d3, d4] }
  | _ => none }
def countViewsRow : OpenClaim := { program := "ythekefnocphcdaa", sum := "402ea07bf994ae4f9f0f12ba18bb2fcdacf2e2b20759c9a3c87f1753ecca0064", func := "franking/frankinglaw27.CountViews", spec := "countViews", unfollowed := true, recurses := true, plainKeys := false, apart := false }
def CountViewsSaid : Prop := countViewsRow.holds Try.pinned (OpenSpec.ofChange countViewsSpec)

/-- ITS FALSE NEIGHBOUR: 'it returns false'. Refute it at one input. -/
def countViewsWrong : ChangeSpec := { name := "countViews", fn := fun _ => fun
  | [d1, d2, d3, d4] => { results := [.lit (.bool false)], args := [d1, d2, d3, d4] }
  | _ => none }
def CountViewsWrongFalsely : Prop := countViewsRow.holds Try.pinned (OpenSpec.ofChange countViewsWrong)

/-- 'frankinglaw31.PromiseCounted': WHATEVER THE INPUT: true; the input reads as it did. -/
def promiseCountedSpec : ChangeSpec := { name := "promiseCounted", fn := fun _ => fun
  | [d1, d2] => { results := [.lit (.bool true)], args := [d1, d2] }
  | _ => none }
def promiseCountedRow : OpenClaim := { program := "ythekefnocphcdaa", sum := "402ea07bf994ae4f9f0f12ba18bb2fcdacf2e2b20759c9a3c87f1753ecca0064", func := "franking/frankinglaw31.PromiseCounted", spec := "promiseCounted", unfollowed := true, recurses := true, plainKeys := false, apart := false }
def PromiseCountedSaid : Prop := promiseCountedRow.holds Try.pinned (OpenSpec.ofChange promiseCountedSpec)

/-- ITS FALSE NEIGHBOUR: 'it returns false'. Refute it at one input. -/
def promiseCountedWrong : ChangeSpec := { name := "promiseCounted", fn := fun _ => fun
  | [d1, d2] => { results := [.lit (.bool false)], args := [d1, d2] }
  | _ => none }
def PromiseCountedWrongFalsely : Prop := promiseCountedRow.holds Try.pinned (OpenSpec.ofChange promiseCountedWrong)

/-- 'frankinglaw28.BoundsCount': WHATEVER THE INPUT: true; the input reads as it did. -/
def boundsCountSpec : ChangeSpec := { name := "boundsCount", fn := fun _ => fun
  | [d1, d2, d3] => { results := [.lit (.bool true)], args := [d1, d2, d3] }
  | _ => none }
def boundsCountRow : OpenClaim := { program := "ythekefnocphcdaa", sum := "402ea07bf994ae4f9f0f12ba18bb2fcdacf2e2b20759c9a3c87f1753ecca0064", func := "franking/frankinglaw28.BoundsCount", spec := "boundsCount", unfollowed := true, recurses := true, plainKeys := false, apart := false }
def BoundsCountSaid : Prop := boundsCountRow.holds Try.pinned (OpenSpec.ofChange boundsCountSpec)

/-- ITS FALSE NEIGHBOUR: 'it returns false'. Refute it at one input. -/
def boundsCountWrong : ChangeSpec := { name := "boundsCount", fn := fun _ => fun
  | [d1, d2, d3] => { results := [.lit (.bool false)], args := [d1, d2, d3] }
  | _ => none }
def BoundsCountWrongFalsely : Prop := boundsCountRow.holds Try.pinned (OpenSpec.ofChange boundsCountWrong)

/-- 'frankinglaw28.BoundsExact': WHATEVER THE INPUT: true; the input reads as it did. -/
def boundsExactSpec : ChangeSpec := { name := "boundsExact", fn := fun _ => fun
  | [d1, d2] => { results := [.lit (.bool true)], args := [d1, d2] }
  | _ => none }
def boundsExactRow : OpenClaim := { program := "ythekefnocphcdaa", sum := "402ea07bf994ae4f9f0f12ba18bb2fcdacf2e2b20759c9a3c87f1753ecca0064", func := "franking/frankinglaw28.BoundsExact", spec := "boundsExact", unfollowed := true, recurses := true, plainKeys := false, apart := false }
def BoundsExactSaid : Prop := boundsExactRow.holds Try.pinned (OpenSpec.ofChange boundsExactSpec)

/-- ITS FALSE NEIGHBOUR: 'it returns false'. Refute it at one input. -/
def boundsExactWrong : ChangeSpec := { name := "boundsExact", fn := fun _ => fun
  | [d1, d2] => { results := [.lit (.bool false)], args := [d1, d2] }
  | _ => none }
def BoundsExactWrongFalsely : Prop := boundsExactRow.holds Try.pinned (OpenSpec.ofChange boundsExactWrong)

/- THE SECOND FORM. 'bulk': how many values and letters a reading holds, each counted each time it is reached (what is shared counts as often as it is met; a slice's spare places count too). A statement '..UptoSaid' is the law's where the arguments, and the package variables that the reading takes, are together of bulk at most 1048576: NARROWER than '..Said'. Prove '..Said' where nothing that the law and all that it calls make is longer than what came in: it says more and counts as full. Else prove '..UptoSaid'. A law counts once. -/
mutual
def uptoBulk {H : Type} : DataW H → Nat
  | .lit (.string bytes) => bytes.length + 1
  | .lit _ => 1
  | .nil => 1
  | .ptr d => uptoBulk d + 1
  | .slice elems spare => uptoBulkAll elems + uptoBulkAll spare + 1
  | .agg parts => uptoBulkAll parts + 1
  | .iface _ d => uptoBulk d + 1
  | .map entries => uptoBulkEntries entries + 1
  | .held _ => 1
def uptoBulkAll {H : Type} : List (DataW H) → Nat
  | [] => 0
  | d :: r => uptoBulk d + uptoBulkAll r
def uptoBulkEntries {H : Type} : List (Lit × DataW H) → Nat
  | [] => 0
  | x :: r => uptoBulkEntry x + uptoBulkEntries r
def uptoBulkEntry {H : Type} : Lit × DataW H → Nat
  | (.string bytes, d) => bytes.length + uptoBulk d + 1
  | (_, d) => uptoBulk d + 1
 end
def uptoSmall : (H : Type) → List (DataW H) → Bool := fun _ ds => decide (uptoBulkAll ds ≤ 1048576)
def OpenSpec.upto (s : _root_.Go.ChangeSpec) : _root_.Go.OpenSpec := { _root_.Go.OpenSpec.ofChange s with cond := some uptoSmall }

/-- 'frankinglaw27.CountSpec', WHERE WHAT IT READS IS OF BULK AT MOST 1048576: true; the input reads as it did. -/
def countSpecUptoRow : OpenClaim := { program := "ythekefnocphcdaa", sum := "402ea07bf994ae4f9f0f12ba18bb2fcdacf2e2b20759c9a3c87f1753ecca0064", func := "franking/frankinglaw27.CountSpec", spec := "countSpec", unfollowed := true, recurses := true, plainKeys := false, apart := false, narrowed := true }
def CountSpecUptoSaid : Prop := countSpecUptoRow.holds Try.pinned (OpenSpec.upto countSpecSpec)

/-- 'frankinglaw27.CountPossibleSpec', WHERE WHAT IT READS IS OF BULK AT MOST 1048576: true; the input reads as it did. -/
def countPossibleSpecUptoRow : OpenClaim := { program := "ythekefnocphcdaa", sum := "402ea07bf994ae4f9f0f12ba18bb2fcdacf2e2b20759c9a3c87f1753ecca0064", func := "franking/frankinglaw27.CountPossibleSpec", spec := "countPossibleSpec", unfollowed := true, recurses := true, plainKeys := false, apart := false, narrowed := true }
def CountPossibleSpecUptoSaid : Prop := countPossibleSpecUptoRow.holds Try.pinned (OpenSpec.upto countPossibleSpecSpec)

/-- 'frankinglaw27.CountUnion', WHERE WHAT IT READS IS OF BULK AT MOST 1048576: true; the input reads as it did. -/
def countUnionUptoRow : OpenClaim := { program := "ythekefnocphcdaa", sum := "402ea07bf994ae4f9f0f12ba18bb2fcdacf2e2b20759c9a3c87f1753ecca0064", func := "franking/frankinglaw27.CountUnion", spec := "countUnion", unfollowed := true, recurses := true, plainKeys := false, apart := false, narrowed := true }
def CountUnionUptoSaid : Prop := countUnionUptoRow.holds Try.pinned (OpenSpec.upto countUnionSpec)

/-- 'frankinglaw27.CountFurther', WHERE WHAT IT READS IS OF BULK AT MOST 1048576: true; the input reads as it did. -/
def countFurtherUptoRow : OpenClaim := { program := "ythekefnocphcdaa", sum := "402ea07bf994ae4f9f0f12ba18bb2fcdacf2e2b20759c9a3c87f1753ecca0064", func := "franking/frankinglaw27.CountFurther", spec := "countFurther", unfollowed := true, recurses := true, plainKeys := false, apart := false, narrowed := true }
def CountFurtherUptoSaid : Prop := countFurtherUptoRow.holds Try.pinned (OpenSpec.upto countFurtherSpec)

/-- 'frankinglaw27.CountEnds', WHERE WHAT IT READS IS OF BULK AT MOST 1048576: true; the input reads as it did. -/
def countEndsUptoRow : OpenClaim := { program := "ythekefnocphcdaa", sum := "402ea07bf994ae4f9f0f12ba18bb2fcdacf2e2b20759c9a3c87f1753ecca0064", func := "franking/frankinglaw27.CountEnds", spec := "countEnds", unfollowed := true, recurses := true, plainKeys := false, apart := false, narrowed := true }
def CountEndsUptoSaid : Prop := countEndsUptoRow.holds Try.pinned (OpenSpec.upto countEndsSpec)

/-- 'frankinglaw27.CountKnown', WHERE WHAT IT READS IS OF BULK AT MOST 1048576: true; the input reads as it did. -/
def countKnownUptoRow : OpenClaim := { program := "ythekefnocphcdaa", sum := "402ea07bf994ae4f9f0f12ba18bb2fcdacf2e2b20759c9a3c87f1753ecca0064", func := "franking/frankinglaw27.CountKnown", spec := "countKnown", unfollowed := true, recurses := true, plainKeys := false, apart := false, narrowed := true }
def CountKnownUptoSaid : Prop := countKnownUptoRow.holds Try.pinned (OpenSpec.upto countKnownSpec)

/-- 'frankinglaw27.CountViews', WHERE WHAT IT READS IS OF BULK AT MOST 1048576: true; the input reads as it did. -/
def countViewsUptoRow : OpenClaim := { program := "ythekefnocphcdaa", sum := "402ea07bf994ae4f9f0f12ba18bb2fcdacf2e2b20759c9a3c87f1753ecca0064", func := "franking/frankinglaw27.CountViews", spec := "countViews", unfollowed := true, recurses := true, plainKeys := false, apart := false, narrowed := true }
def CountViewsUptoSaid : Prop := countViewsUptoRow.holds Try.pinned (OpenSpec.upto countViewsSpec)

/-- 'frankinglaw31.PromiseCounted', WHERE WHAT IT READS IS OF BULK AT MOST 1048576: true; the input reads as it did. -/
def promiseCountedUptoRow : OpenClaim := { program := "ythekefnocphcdaa", sum := "402ea07bf994ae4f9f0f12ba18bb2fcdacf2e2b20759c9a3c87f1753ecca0064", func := "franking/frankinglaw31.PromiseCounted", spec := "promiseCounted", unfollowed := true, recurses := true, plainKeys := false, apart := false, narrowed := true }
def PromiseCountedUptoSaid : Prop := promiseCountedUptoRow.holds Try.pinned (OpenSpec.upto promiseCountedSpec)

/-- 'frankinglaw28.BoundsCount', WHERE WHAT IT READS IS OF BULK AT MOST 1048576: true; the input reads as it did. -/
def boundsCountUptoRow : OpenClaim := { program := "ythekefnocphcdaa", sum := "402ea07bf994ae4f9f0f12ba18bb2fcdacf2e2b20759c9a3c87f1753ecca0064", func := "franking/frankinglaw28.BoundsCount", spec := "boundsCount", unfollowed := true, recurses := true, plainKeys := false, apart := false, narrowed := true }
def BoundsCountUptoSaid : Prop := boundsCountUptoRow.holds Try.pinned (OpenSpec.upto boundsCountSpec)

/-- 'frankinglaw28.BoundsExact', WHERE WHAT IT READS IS OF BULK AT MOST 1048576: true; the input reads as it did. -/
def boundsExactUptoRow : OpenClaim := { program := "ythekefnocphcdaa", sum := "402ea07bf994ae4f9f0f12ba18bb2fcdacf2e2b20759c9a3c87f1753ecca0064", func := "franking/frankinglaw28.BoundsExact", spec := "boundsExact", unfollowed := true, recurses := true, plainKeys := false, apart := false, narrowed := true }
def BoundsExactUptoSaid : Prop := boundsExactUptoRow.holds Try.pinned (OpenSpec.upto boundsExactSpec)

end Rows
end Go.Proofs.Ythekefnocphcdaa
