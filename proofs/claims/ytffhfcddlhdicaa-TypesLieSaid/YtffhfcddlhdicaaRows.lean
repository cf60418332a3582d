/-
  NARROWER THAN 'FOR EVERY INPUT', by the rows' own cells (each row's printed sentence says how): TypesLie: loops.
  DERIVED. THE GIVEN ROWS OF THIS SEAT. 6 by the template 'for every input the law returns true; each argument reads behind the call as it read before'; 0 by the template 'total and deterministic' (their statements: YtffhfcddlhdicaaTotals.lean).
  GIVEN WITH THE SEED: the statements are not yours to turn. If you find one false, say at which input.
  Laid BY PROGRAM, IN A SANDBOX (cutbox-rows.mjs): the forced cells as the released guide's own fill.sh prints them over the translation fbea5127238be51f… (all of the seat's roots in one cut). By AI agents, Wed Nov 11 2026. No macro, syntax, notation, axiom, sorry.
-/
import Derived.Test.YtffhfcddlhdicaaChecked
import GoSem.Claim
import GoSem.ClaimJoined
import GoSem.ClaimMapViews
import Derived.JoinedTies
import Derived.KernelRfl
namespace Go.Proofs.Ytffhfcddlhdicaa
/- THE CELL 'sum', in the pinned program and in every row, IS THE sha256 OF THE DUMP (.gsa) THAT YtffhfcddlhdicaaProg.lean LOADS. Nothing in Lean hashes anything: it is a label: what it is worth is what the hold of that sum in a sandbox is worth. -/
noncomputable def Try.pinned : Pinned := { name := "ytffhfcddlhdicaa", sum := "fbea5127238be51fb2dc2aec61756c5aa07855d2014324b91aaa73b9b999382f", checked := Try.checked }
namespace Rows
def none {H : Type} : Left H := { results := [], args := [] }

/-- 'scarfjointlaw.WordJoins': WHATEVER THE INPUT: true; the input reads as it did. -/
def wordJoinsSpec : ChangeSpec := { name := "wordJoins", fn := fun _ => fun
  | [d1, d2, d3] => { results := [.lit (.bool true)], args := [d1, d2, d3] }
  | _ => none }
def wordJoinsRow : OpenClaim := { program := "ytffhfcddlhdicaa", sum := "fbea5127238be51fb2dc2aec61756c5aa07855d2014324b91aaa73b9b999382f", func := "scarfjoint/scarfjointlaw.WordJoins", spec := "wordJoins", plainKeys := false, apart := false }
def WordJoinsSaid : Prop := wordJoinsRow.holds Try.pinned (OpenSpec.ofChange wordJoinsSpec)

/-- ITS FALSE NEIGHBOUR: 'it returns false'. Refute it at one input. -/
def wordJoinsWrong : ChangeSpec := { name := "wordJoins", fn := fun _ => fun
  | [d1, d2, d3] => { results := [.lit (.bool false)], args := [d1, d2, d3] }
  | _ => none }
def WordJoinsWrongFalsely : Prop := wordJoinsRow.holds Try.pinned (OpenSpec.ofChange wordJoinsWrong)

/-- 'scarfjointlaw.WordWide': WHATEVER THE INPUT: true; the input reads as it did. -/
def wordWideSpec : ChangeSpec := { name := "wordWide", fn := fun _ => fun
  | [d1, d2, d3] => { results := [.lit (.bool true)], args := [d1, d2, d3] }
  | _ => none }
def wordWideRow : OpenClaim := { program := "ytffhfcddlhdicaa", sum := "fbea5127238be51fb2dc2aec61756c5aa07855d2014324b91aaa73b9b999382f", func := "scarfjoint/scarfjointlaw.WordWide", spec := "wordWide", unfollowed := true, recurses := true, plainKeys := false, apart := false }
def WordWideSaid : Prop := wordWideRow.holds Try.pinned (OpenSpec.ofChange wordWideSpec)

/-- ITS FALSE NEIGHBOUR: 'it returns false'. Refute it at one input. -/
def wordWideWrong : ChangeSpec := { name := "wordWide", fn := fun _ => fun
  | [d1, d2, d3] => { results := [.lit (.bool false)], args := [d1, d2, d3] }
  | _ => none }
def WordWideWrongFalsely : Prop := wordWideRow.holds Try.pinned (OpenSpec.ofChange wordWideWrong)

/-- 'scarfjointlaw.WordOps': WHATEVER THE INPUT: true; the input reads as it did. -/
def wordOpsSpec : ChangeSpec := { name := "wordOps", fn := fun _ => fun
  | [d1, d2, d3] => { results := [.lit (.bool true)], args := [d1, d2, d3] }
  | _ => none }
def wordOpsRow : OpenClaim := { program := "ytffhfcddlhdicaa", sum := "fbea5127238be51fb2dc2aec61756c5aa07855d2014324b91aaa73b9b999382f", func := "scarfjoint/scarfjointlaw.WordOps", spec := "wordOps", unfollowed := true, recurses := true, plainKeys := false, apart := false }
def WordOpsSaid : Prop := wordOpsRow.holds Try.pinned (OpenSpec.ofChange wordOpsSpec)

/-- ITS FALSE NEIGHBOUR: 'it returns false'. Refute it at one input. -/
def wordOpsWrong : ChangeSpec := { name := "wordOps", fn := fun _ => fun
  | [d1, d2, d3] => { results := [.lit (.bool false)], args := [d1, d2, d3] }
  | _ => none }
def WordOpsWrongFalsely : Prop := wordOpsRow.holds Try.pinned (OpenSpec.ofChange wordOpsWrong)

/-- 'scarfjointlaw.MovesDo': WHATEVER THE INPUT: true; the input reads as it did. -/
def movesDoSpec : ChangeSpec := { name := "movesDo", fn := fun _ => fun
  | [d1, d2] => { results := [.lit (.bool true)], args := [d1, d2] }
  | _ => none }
def movesDoRow : OpenClaim := { program := "ytffhfcddlhdicaa", sum := "fbea5127238be51fb2dc2aec61756c5aa07855d2014324b91aaa73b9b999382f", func := "scarfjoint/scarfjointlaw.MovesDo", spec := "movesDo", unfollowed := true, recurses := true, plainKeys := false, apart := false }
def MovesDoSaid : Prop := movesDoRow.holds Try.pinned (OpenSpec.ofChange movesDoSpec)

/-- ITS FALSE NEIGHBOUR: 'it returns false'. Refute it at one input. -/
def movesDoWrong : ChangeSpec := { name := "movesDo", fn := fun _ => fun
  | [d1, d2] => { results := [.lit (.bool false)], args := [d1, d2] }
  | _ => none }
def MovesDoWrongFalsely : Prop := movesDoRow.holds Try.pinned (OpenSpec.ofChange movesDoWrong)

/-- 'scarfjointkeep.WordMade': WHATEVER THE INPUT: true; the input reads as it did. -/
def wordMadeSpec : ChangeSpec := { name := "wordMade", fn := fun _ => fun
  | [d1, d2] => { results := [.lit (.bool true)], args := [d1, d2] }
  | _ => none }
def wordMadeRow : OpenClaim := { program := "ytffhfcddlhdicaa", sum := "fbea5127238be51fb2dc2aec61756c5aa07855d2014324b91aaa73b9b999382f", func := "scarfjoint/scarfjointkeep.WordMade", spec := "wordMade", unfollowed := true, recurses := true, plainKeys := false, apart := false }
def WordMadeSaid : Prop := wordMadeRow.holds Try.pinned (OpenSpec.ofChange wordMadeSpec)

/-- ITS FALSE NEIGHBOUR: 'it returns false'. Refute it at one input. -/
def wordMadeWrong : ChangeSpec := { name := "wordMade", fn := fun _ => fun
  | [d1, d2] => { results := [.lit (.bool false)], args := [d1, d2] }
  | _ => none }
def WordMadeWrongFalsely : Prop := wordMadeRow.holds Try.pinned (OpenSpec.ofChange wordMadeWrong)

/-- 'scarfjointkeep.TypesLie': WHATEVER THE INPUT: true; the input reads as it did. -/
def typesLieSpec : ChangeSpec := { name := "typesLie", fn := fun _ => fun
  | [d] => { results := [.lit (.bool true)], args := [d] }
  | _ => none }
def typesLieRow : OpenClaim := { program := "ytffhfcddlhdicaa", sum := "fbea5127238be51fb2dc2aec61756c5aa07855d2014324b91aaa73b9b999382f", func := "scarfjoint/scarfjointkeep.TypesLie", spec := "typesLie", inPlace := ["internal/bytealg.IndexByteString", "internal/bytealg.IndexString"], unfollowed := true, recurses := true, named := ["internal/bytealg.MaxLen"], loops := true, plainKeys := false, apart := false }
def TypesLieSaid : Prop := typesLieRow.holds Try.pinned (OpenSpec.ofChange typesLieSpec)

/-- ITS FALSE NEIGHBOUR: 'it returns false'. Refute it at one input. -/
def typesLieWrong : ChangeSpec := { name := "typesLie", fn := fun _ => fun
  | [d] => { results := [.lit (.bool false)], args := [d] }
  | _ => none }
def TypesLieWrongFalsely : Prop := typesLieRow.holds Try.pinned (OpenSpec.ofChange typesLieWrong)

/- THE SECOND FORM. 'bulk': how many values and letters a reading holds, each counted each time it is reached (what is shared counts as often as it is met; a slice's spare places count too). A statement '..UptoSaid' is the law's where the arguments, and the package variables that the reading takes, are together of bulk at most 1048576: NARROWER than '..Said'. Prove '..Said' where nothing that the law and all that it calls make is longer than what came in: it says more and counts as full. Else prove '..UptoSaid'. A law counts once. -/
mutual
def uptoBulk {H : Type} : DataW H → Nat
  | .lit (.string bytes) => bytes.length + 1
  | .lit _ => 1
  | .nil => 1
  | .ptr d => uptoBulk d + 1
  | .slice elems spare => uptoBulkAll elems + uptoBulkAll spare + 1
  | .agg parts => uptoBulkAll parts + 1
  | .iface _ d => uptoBulk d + 1
  | .map entries => uptoBulkEntries entries + 1
  | .held _ => 1
def uptoBulkAll {H : Type} : List (DataW H) → Nat
  | [] => 0
  | d :: r => uptoBulk d + uptoBulkAll r
def uptoBulkEntries {H : Type} : List (Lit × DataW H) → Nat
  | [] => 0
  | x :: r => uptoBulkEntry x + uptoBulkEntries r
def uptoBulkEntry {H : Type} : Lit × DataW H → Nat
  | (.string bytes, d) => bytes.length + uptoBulk d + 1
  | (_, d) => uptoBulk d + 1
 end
def uptoSmall : (H : Type) → List (DataW H) → Bool := fun _ ds => decide (uptoBulkAll ds ≤ 1048576)
def OpenSpec.upto (s : _root_.Go.ChangeSpec) : _root_.Go.OpenSpec := { _root_.Go.OpenSpec.ofChange s with cond := some uptoSmall }

/-- 'scarfjointlaw.WordJoins', WHERE WHAT IT READS IS OF BULK AT MOST 1048576: true; the input reads as it did. -/
def wordJoinsUptoRow : OpenClaim := { program := "ytffhfcddlhdicaa", sum := "fbea5127238be51fb2dc2aec61756c5aa07855d2014324b91aaa73b9b999382f", func := "scarfjoint/scarfjointlaw.WordJoins", spec := "wordJoins", plainKeys := false, apart := false, narrowed := true }
def WordJoinsUptoSaid : Prop := wordJoinsUptoRow.holds Try.pinned (OpenSpec.upto wordJoinsSpec)

/-- 'scarfjointlaw.WordWide', WHERE WHAT IT READS IS OF BULK AT MOST 1048576: true; the input reads as it did. -/
def wordWideUptoRow : OpenClaim := { program := "ytffhfcddlhdicaa", sum := "fbea5127238be51fb2dc2aec61756c5aa07855d2014324b91aaa73b9b999382f", func := "scarfjoint/scarfjointlaw.WordWide", spec := "wordWide", unfollowed := true, recurses := true, plainKeys := false, apart := false, narrowed := true }
def WordWideUptoSaid : Prop := wordWideUptoRow.holds Try.pinned (OpenSpec.upto wordWideSpec)

/-- 'scarfjointlaw.WordOps', WHERE WHAT IT READS IS OF BULK AT MOST 1048576: true; the input reads as it did. -/
def wordOpsUptoRow : OpenClaim := { program := "ytffhfcddlhdicaa", sum := "fbea5127238be51fb2dc2aec61756c5aa07855d2014324b91aaa73b9b999382f", func := "scarfjoint/scarfjointlaw.WordOps", spec := "wordOps", unfollowed := true, recurses := true, plainKeys := false, apart := false, narrowed := true }
def WordOpsUptoSaid : Prop := wordOpsUptoRow.holds Try.pinned (OpenSpec.upto wordOpsSpec)

/-- 'scarfjointlaw.MovesDo', WHERE WHAT IT READS IS OF BULK AT MOST 1048576: true; the input reads as it did. -/
def movesDoUptoRow : OpenClaim := { program := "ytffhfcddlhdicaa", sum := "fbea5127238be51fb2dc2aec61756c5aa07855d2014324b91aaa73b9b999382f", func := "scarfjoint/scarfjointlaw.MovesDo", spec := "movesDo", unfollowed := true, recurses := true, plainKeys := false, apart := false, narrowed := true }
def MovesDoUptoSaid : Prop := movesDoUptoRow.holds Try.pinned (OpenSpec.upto movesDoSpec)

/-- 'scarfjointkeep.WordMade', WHERE WHAT IT READS IS OF BULK AT MOST 1048576: true; the input reads as it did. -/
def wordMadeUptoRow : OpenClaim := { program := "ytffhfcddlhdicaa", sum := "fbea5127238be51fb2dc2aec61756c5aa07855d2014324b91aaa73b9b999382f", func := "scarfjoint/scarfjointkeep.WordMade", spec := "wordMade", unfollowed := true, recurses := true, plainKeys := false, apart := false, narrowed := true }
def WordMadeUptoSaid : Prop := wordMadeUptoRow.holds Try.pinned (OpenSpec.upto wordMadeSpec)

/-- 'scarfjointkeep.TypesLie', WHERE WHAT IT READS IS OF BULK AT MOST 1048576: true; the input reads as it did. -/
def typesLieUptoRow : OpenClaim := { program := "ytffhfcddlhdicaa", sum := "fbea5127238be51fb2dc2aec61756c5aa07855d2014324b91aaa73b9b999382f", func := "scarfjoint/scarfjointkeep.TypesLie", spec := "typesLie", inPlace := ["internal/bytealg.IndexByteString", "internal/bytealg.IndexString"], unfollowed := true, recurses := true, named := ["internal/bytealg.MaxLen"], loops := true, plainKeys := false, apart := false, narrowed := true }
def TypesLieUptoSaid : Prop := typesLieUptoRow.holds Try.pinned (OpenSpec.upto typesLieSpec)

end Rows
end Go.Proofs.Ytffhfcddlhdicaa
