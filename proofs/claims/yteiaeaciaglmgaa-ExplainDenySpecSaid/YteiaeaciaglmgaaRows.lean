/-
  NARROWER THAN 'FOR EVERY INPUT', by the rows' own cells (each row's printed sentence says how): ExplainDenySpec: loops · ExplainSound: loops.
  DERIVED. THE GIVEN ROWS OF THIS SEAT. 6 by the template 'for every input the law returns true; each argument reads behind the call as it read before'; 0 by the template 'total and deterministic' (their statements: YteiaeaciaglmgaaTotals.lean).
  GIVEN WITH THE SEED: the statements are not yours to turn. If you find one false, say at which input.
  Laid BY PROGRAM, IN A SANDBOX (cutbox-rows.mjs): the forced cells as the released guide's own fill.sh prints them over the translation a8c7aca05bd2dcc7… (all of the seat's roots in one cut). By AI agents, Wed Nov 11 2026. No macro, syntax, notation, axiom, sorry.
-/
import Derived.Test.YteiaeaciaglmgaaChecked
import GoSem.Claim
import GoSem.ClaimJoined
import GoSem.ClaimMapViews
import Derived.JoinedTies
import Derived.KernelRfl
namespace Go.Proofs.Yteiaeaciaglmgaa
/- THE CELL 'sum', in the pinned program and in every row, IS THE sha256 OF THE DUMP (.gsa) THAT YteiaeaciaglmgaaProg.lean LOADS. Nothing in Lean hashes anything: it is a label: what it is worth is what the hold of that sum in a sandbox is worth. -/
noncomputable def Try.pinned : Pinned := { name := "yteiaeaciaglmgaa", sum := "a8c7aca05bd2dcc7166c569786b6ff17003b7ae6a3d5031d753f75f3aae48270", checked := Try.checked }
namespace Rows
def none {H : Type} : Left H := { results := [], args := [] }

/-- 'frankinglaw29.ExplainSpec': WHATEVER THE INPUT: true; the input reads as it did. -/
def explainSpecSpec : ChangeSpec := { name := "explainSpec", fn := fun _ => fun
  | [d1, d2, d3] => { results := [.lit (.bool true)], args := [d1, d2, d3] }
  | _ => none }
def explainSpecRow : OpenClaim := { program := "yteiaeaciaglmgaa", sum := "a8c7aca05bd2dcc7166c569786b6ff17003b7ae6a3d5031d753f75f3aae48270", func := "franking/frankinglaw29.ExplainSpec", spec := "explainSpec", unfollowed := true, recurses := true, apart := false }
def ExplainSpecSaid : Prop := explainSpecRow.holds Try.pinned (OpenSpec.ofChange explainSpecSpec)

/-- ITS FALSE NEIGHBOUR: 'it returns false'. Refute it at one input. -/
def explainSpecWrong : ChangeSpec := { name := "explainSpec", fn := fun _ => fun
  | [d1, d2, d3] => { results := [.lit (.bool false)], args := [d1, d2, d3] }
  | _ => none }
def ExplainSpecWrongFalsely : Prop := explainSpecRow.holds Try.pinned (OpenSpec.ofChange explainSpecWrong)

/-- 'frankinglaw29.ExplainDenySpec': WHATEVER THE INPUT: true; the input reads as it did. -/
def explainDenySpecSpec : ChangeSpec := { name := "explainDenySpec", fn := fun _ => fun
  | [d1, d2, d3] => { results := [.lit (.bool true)], args := [d1, d2, d3] }
  | _ => none }
def explainDenySpecRow : OpenClaim := { program := "yteiaeaciaglmgaa", sum := "a8c7aca05bd2dcc7166c569786b6ff17003b7ae6a3d5031d753f75f3aae48270", func := "franking/frankinglaw29.ExplainDenySpec", spec := "explainDenySpec", unfollowed := true, recurses := true, loops := true, apart := false }
def ExplainDenySpecSaid : Prop := explainDenySpecRow.holds Try.pinned (OpenSpec.ofChange explainDenySpecSpec)

/-- ITS FALSE NEIGHBOUR: 'it returns false'. Refute it at one input. -/
def explainDenySpecWrong : ChangeSpec := { name := "explainDenySpec", fn := fun _ => fun
  | [d1, d2, d3] => { results := [.lit (.bool false)], args := [d1, d2, d3] }
  | _ => none }
def ExplainDenySpecWrongFalsely : Prop := explainDenySpecRow.holds Try.pinned (OpenSpec.ofChange explainDenySpecWrong)

/-- 'frankinglaw29.ExplainEither': WHATEVER THE INPUT: true; the input reads as it did. -/
def explainEitherSpec : ChangeSpec := { name := "explainEither", fn := fun _ => fun
  | [d1, d2] => { results := [.lit (.bool true)], args := [d1, d2] }
  | _ => none }
def explainEitherRow : OpenClaim := { program := "yteiaeaciaglmgaa", sum := "a8c7aca05bd2dcc7166c569786b6ff17003b7ae6a3d5031d753f75f3aae48270", func := "franking/frankinglaw29.ExplainEither", spec := "explainEither", unfollowed := true, recurses := true, apart := false }
def ExplainEitherSaid : Prop := explainEitherRow.holds Try.pinned (OpenSpec.ofChange explainEitherSpec)

/-- ITS FALSE NEIGHBOUR: 'it returns false'. Refute it at one input. -/
def explainEitherWrong : ChangeSpec := { name := "explainEither", fn := fun _ => fun
  | [d1, d2] => { results := [.lit (.bool false)], args := [d1, d2] }
  | _ => none }
def ExplainEitherWrongFalsely : Prop := explainEitherRow.holds Try.pinned (OpenSpec.ofChange explainEitherWrong)

/-- 'frankinglaw29.ExplainSound': WHATEVER THE INPUT: true; the input reads as it did. -/
def explainSoundSpec : ChangeSpec := { name := "explainSound", fn := fun _ => fun
  | [d1, d2, d3, d4] => { results := [.lit (.bool true)], args := [d1, d2, d3, d4] }
  | _ => none }
def explainSoundRow : OpenClaim := { program := "yteiaeaciaglmgaa", sum := "a8c7aca05bd2dcc7166c569786b6ff17003b7ae6a3d5031d753f75f3aae48270", func := "franking/frankinglaw29.ExplainSound", spec := "explainSound", unfollowed := true, recurses := true, loops := true, apart := false }
def ExplainSoundSaid : Prop := explainSoundRow.holds Try.pinned (OpenSpec.ofChange explainSoundSpec)

/-- ITS FALSE NEIGHBOUR: 'it returns false'. Refute it at one input. -/
def explainSoundWrong : ChangeSpec := { name := "explainSound", fn := fun _ => fun
  | [d1, d2, d3, d4] => { results := [.lit (.bool false)], args := [d1, d2, d3, d4] }
  | _ => none }
def ExplainSoundWrongFalsely : Prop := explainSoundRow.holds Try.pinned (OpenSpec.ofChange explainSoundWrong)

/-- 'frankinglaw29.ExplainLeads': WHATEVER THE INPUT: true; the input reads as it did. -/
def explainLeadsSpec : ChangeSpec := { name := "explainLeads", fn := fun _ => fun
  | [d1, d2, d3] => { results := [.lit (.bool true)], args := [d1, d2, d3] }
  | _ => none }
def explainLeadsRow : OpenClaim := { program := "yteiaeaciaglmgaa", sum := "a8c7aca05bd2dcc7166c569786b6ff17003b7ae6a3d5031d753f75f3aae48270", func := "franking/frankinglaw29.ExplainLeads", spec := "explainLeads", unfollowed := true, recurses := true, apart := false }
def ExplainLeadsSaid : Prop := explainLeadsRow.holds Try.pinned (OpenSpec.ofChange explainLeadsSpec)

/-- ITS FALSE NEIGHBOUR: 'it returns false'. Refute it at one input. -/
def explainLeadsWrong : ChangeSpec := { name := "explainLeads", fn := fun _ => fun
  | [d1, d2, d3] => { results := [.lit (.bool false)], args := [d1, d2, d3] }
  | _ => none }
def ExplainLeadsWrongFalsely : Prop := explainLeadsRow.holds Try.pinned (OpenSpec.ofChange explainLeadsWrong)

/-- 'frankinglaw29.ExplainUnknown': WHATEVER THE INPUT: true; the input reads as it did. -/
def explainUnknownSpec : ChangeSpec := { name := "explainUnknown", fn := fun _ => fun
  | [d1, d2, d3] => { results := [.lit (.bool true)], args := [d1, d2, d3] }
  | _ => none }
def explainUnknownRow : OpenClaim := { program := "yteiaeaciaglmgaa", sum := "a8c7aca05bd2dcc7166c569786b6ff17003b7ae6a3d5031d753f75f3aae48270", func := "franking/frankinglaw29.ExplainUnknown", spec := "explainUnknown", unfollowed := true, recurses := true, apart := false }
def ExplainUnknownSaid : Prop := explainUnknownRow.holds Try.pinned (OpenSpec.ofChange explainUnknownSpec)

/-- ITS FALSE NEIGHBOUR: 'it returns false'. Refute it at one input. -/
def explainUnknownWrong : ChangeSpec := { name := "explainUnknown", fn := fun _ => fun
  | [d1, d2, d3] => { results := [.lit (.bool false)], args := [d1, d2, d3] }
  | _ => none }
def ExplainUnknownWrongFalsely : Prop := explainUnknownRow.holds Try.pinned (OpenSpec.ofChange explainUnknownWrong)

/- THE SECOND FORM. 'bulk': how many values and letters a reading holds, each counted each time it is reached (what is shared counts as often as it is met; a slice's spare places count too). A statement '..UptoSaid' is the law's where the arguments, and the package variables that the reading takes, are together of bulk at most 1048576: NARROWER than '..Said'. Prove '..Said' where nothing that the law and all that it calls make is longer than what came in: it says more and counts as full. Else prove '..UptoSaid'. A law counts once. -/
mutual
def uptoBulk {H : Type} : DataW H → Nat
  | .lit (.string bytes) => bytes.length + 1
  | .lit _ => 1
  | .nil => 1
  | .ptr d => uptoBulk d + 1
  | .slice elems spare => uptoBulkAll elems + uptoBulkAll spare + 1
  | .agg parts => uptoBulkAll parts + 1
  | .iface _ d => uptoBulk d + 1
  | .map entries => uptoBulkEntries entries + 1
  | .held _ => 1
def uptoBulkAll {H : Type} : List (DataW H) → Nat
  | [] => 0
  | d :: r => uptoBulk d + uptoBulkAll r
def uptoBulkEntries {H : Type} : List (Lit × DataW H) → Nat
  | [] => 0
  | x :: r => uptoBulkEntry x + uptoBulkEntries r
def uptoBulkEntry {H : Type} : Lit × DataW H → Nat
  | (.string bytes, d) => bytes.length + uptoBulk d + 1
  | (_, d) => uptoBulk d + 1
 end
def uptoSmall : (H : Type) → List (DataW H) → Bool := fun _ ds => decide (uptoBulkAll ds ≤ 1048576)
def OpenSpec.upto (s : _root_.Go.ChangeSpec) : _root_.Go.OpenSpec := { _root_.Go.OpenSpec.ofChange s with cond := some uptoSmall }

/-- 'frankinglaw29.ExplainSpec', WHERE WHAT IT READS IS OF BULK AT MOST 1048576: true; the input reads as it did. -/
def explainSpecUptoRow : OpenClaim := { program := "yteiaeaciaglmgaa", sum := "a8c7aca05bd2dcc7166c569786b6ff17003b7ae6a3d5031d753f75f3aae48270", func := "franking/frankinglaw29.ExplainSpec", spec := "explainSpec", unfollowed := true, recurses := true, apart := false, narrowed := true }
def ExplainSpecUptoSaid : Prop := explainSpecUptoRow.holds Try.pinned (OpenSpec.upto explainSpecSpec)

/-- 'frankinglaw29.ExplainDenySpec', WHERE WHAT IT READS IS OF BULK AT MOST 1048576: true; the input reads as it did. -/
def explainDenySpecUptoRow : OpenClaim := { program := "yteiaeaciaglmgaa", sum := "a8c7aca05bd2dcc7166c569786b6ff17003b7ae6a3d5031d753f75f3aae48270", func := "franking/frankinglaw29.ExplainDenySpec", spec := "explainDenySpec", unfollowed := true, recurses := true, loops := true, apart := false, narrowed := true }
def ExplainDenySpecUptoSaid : Prop := explainDenySpecUptoRow.holds Try.pinned (OpenSpec.upto explainDenySpecSpec)

/-- 'frankinglaw29.ExplainEither', WHERE WHAT IT READS IS OF BULK AT MOST 1048576: true; the input reads as it did. -/
def explainEitherUptoRow : OpenClaim := { program := "yteiaeaciaglmgaa", sum := "a8c7aca05bd2dcc7166c569786b6ff17003b7ae6a3d5031d753f75f3aae48270", func := "franking/frankinglaw29.ExplainEither", spec := "explainEither", unfollowed := true, recurses := true, apart := false, narrowed := true }
def ExplainEitherUptoSaid : Prop := explainEitherUptoRow.holds Try.pinned (OpenSpec.upto explainEitherSpec)

/-- 'frankinglaw29.ExplainSound', WHERE WHAT IT READS IS OF BULK AT MOST 1048576: true; the input reads as it did. -/
def explainSoundUptoRow : OpenClaim := { program := "yteiaeaciaglmgaa", sum := "a8c7aca05bd2dcc7166c569786b6ff17003b7ae6a3d5031d753f75f3aae48270", func := "franking/frankinglaw29.ExplainSound", spec := "explainSound", unfollowed := true, recurses := true, loops := true, apart := false, narrowed := true }
def ExplainSoundUptoSaid : Prop := explainSoundUptoRow.holds Try.pinned (OpenSpec.upto explainSoundSpec)

/-- 'frankinglaw29.ExplainLeads', WHERE WHAT IT READS IS OF BULK AT MOST 1048576: true; the input reads as it did. -/
def explainLeadsUptoRow : OpenClaim := { program := "yteiaeaciaglmgaa", sum := "a8c7aca05bd2dcc7166c569786b6ff17003b7ae6a3d5031d753f75f3aae48270", func := "franking/frankinglaw29.ExplainLeads", spec := "explainLeads", unfollowed := true, recurses := true, apart := false, narrowed := true }
def ExplainLeadsUptoSaid : Prop := explainLeadsUptoRow.holds Try.pinned (OpenSpec.upto explainLeadsSpec)

/-- 'frankinglaw29.ExplainUnknown', WHERE WHAT IT READS IS OF BULK AT MOST 1048576: true; the input reads as it did. -/
def explainUnknownUptoRow : OpenClaim := { program := "yteiaeaciaglmgaa", sum := "a8c7aca05bd2dcc7166c569786b6ff17003b7ae6a3d5031d753f75f3aae48270", func := "franking/frankinglaw29.ExplainUnknown", spec := "explainUnknown", unfollowed := true, recurses := true, apart := false, narrowed := true }
def ExplainUnknownUptoSaid : Prop := explainUnknownUptoRow.holds Try.pinned (OpenSpec.upto explainUnknownSpec)

end Rows
end Go.Proofs.Yteiaeaciaglmgaa
