/-
  NARROWER THAN 'FOR EVERY INPUT', by the rows' own cells (each row's printed sentence says how): ColourHolds: loops · TailTells: loops · LiveTells: loops.
  DERIVED. THE GIVEN ROWS OF THIS SEAT. 3 by the template 'for every input the law returns true; each argument reads behind the call as it read before'; 0 by the template 'total and deterministic' (their statements: YtkkjkbljgaipcaaTotals.lean).
  GIVEN WITH THE SEED: the statements are not yours to turn. If you find one false, say at which input.
  Laid BY PROGRAM, IN A SANDBOX (cutbox-rows.mjs): the forced cells as the released guide's own fill.sh prints them over the translation 05bfa921fc665a06… (all of the seat's roots in one cut). By AI agents, Wed Nov 11 2026. No macro, syntax, notation, axiom, sorry.
-/
import Derived.Test.YtkkjkbljgaipcaaChecked
import GoSem.Claim
import GoSem.ClaimJoined
import GoSem.ClaimMapViews
import Derived.JoinedTies
import Derived.KernelRfl
namespace Go.Proofs.Ytkkjkbljgaipcaa
/- THE CELL 'sum', in the pinned program and in every row, IS THE sha256 OF THE DUMP (.gsa) THAT YtkkjkbljgaipcaaProg.lean LOADS. Nothing in Lean hashes anything: it is a label: what it is worth is what the hold of that sum in a sandbox is worth. -/
noncomputable def Try.pinned : Pinned := { name := "ytkkjkbljgaipcaa", sum := "05bfa921fc665a062e75baad0db3cea2e2ef3a4a49c86ef5f80c2b0bedc5ec2d", checked := Try.checked }
namespace Rows
def none {H : Type} : Left H := { results := [], args := [] }

/-- 'scarfjointlaw.ColourHolds': WHATEVER THE INPUT: true; the input reads as it did. -/
def colourHoldsSpec : ChangeSpec := { name := "colourHolds", fn := fun _ => fun
  | [d] => { results := [.lit (.bool true)], args := [d] }
  | _ => none }
def colourHoldsRow : OpenClaim := { program := "ytkkjkbljgaipcaa", sum := "05bfa921fc665a062e75baad0db3cea2e2ef3a4a49c86ef5f80c2b0bedc5ec2d", func := "scarfjoint/scarfjointlaw.ColourHolds", spec := "colourHolds", inPlace := ["internal/bytealg.IndexByteString", "internal/bytealg.IndexString"], unfollowed := true, recurses := true, named := ["internal/bytealg.MaxLen"], loops := true, plainKeys := false, apart := false }
def ColourHoldsSaid : Prop := colourHoldsRow.holds Try.pinned (OpenSpec.ofChange colourHoldsSpec)

/-- ITS FALSE NEIGHBOUR: 'it returns false'. Refute it at one input. -/
def colourHoldsWrong : ChangeSpec := { name := "colourHolds", fn := fun _ => fun
  | [d] => { results := [.lit (.bool false)], args := [d] }
  | _ => none }
def ColourHoldsWrongFalsely : Prop := colourHoldsRow.holds Try.pinned (OpenSpec.ofChange colourHoldsWrong)

/-- 'scarfjointlaw.TailTells': WHATEVER THE INPUT: true; the input reads as it did. -/
def tailTellsSpec : ChangeSpec := { name := "tailTells", fn := fun _ => fun
  | [d] => { results := [.lit (.bool true)], args := [d] }
  | _ => none }
def tailTellsRow : OpenClaim := { program := "ytkkjkbljgaipcaa", sum := "05bfa921fc665a062e75baad0db3cea2e2ef3a4a49c86ef5f80c2b0bedc5ec2d", func := "scarfjoint/scarfjointlaw.TailTells", spec := "tailTells", inPlace := ["internal/bytealg.IndexByteString", "internal/bytealg.IndexString"], unfollowed := true, recurses := true, named := ["internal/bytealg.MaxLen"], loops := true, plainKeys := false, apart := false }
def TailTellsSaid : Prop := tailTellsRow.holds Try.pinned (OpenSpec.ofChange tailTellsSpec)

/-- ITS FALSE NEIGHBOUR: 'it returns false'. Refute it at one input. -/
def tailTellsWrong : ChangeSpec := { name := "tailTells", fn := fun _ => fun
  | [d] => { results := [.lit (.bool false)], args := [d] }
  | _ => none }
def TailTellsWrongFalsely : Prop := tailTellsRow.holds Try.pinned (OpenSpec.ofChange tailTellsWrong)

/-- 'scarfjointlaw.LiveTells': WHATEVER THE INPUT: true; the input reads as it did. -/
def liveTellsSpec : ChangeSpec := { name := "liveTells", fn := fun _ => fun
  | [d] => { results := [.lit (.bool true)], args := [d] }
  | _ => none }
def liveTellsRow : OpenClaim := { program := "ytkkjkbljgaipcaa", sum := "05bfa921fc665a062e75baad0db3cea2e2ef3a4a49c86ef5f80c2b0bedc5ec2d", func := "scarfjoint/scarfjointlaw.LiveTells", spec := "liveTells", inPlace := ["internal/bytealg.IndexByteString", "internal/bytealg.IndexString"], unfollowed := true, recurses := true, named := ["internal/bytealg.MaxLen"], loops := true, plainKeys := false, apart := false }
def LiveTellsSaid : Prop := liveTellsRow.holds Try.pinned (OpenSpec.ofChange liveTellsSpec)

/-- ITS FALSE NEIGHBOUR: 'it returns false'. Refute it at one input. -/
def liveTellsWrong : ChangeSpec := { name := "liveTells", fn := fun _ => fun
  | [d] => { results := [.lit (.bool false)], args := [d] }
  | _ => none }
def LiveTellsWrongFalsely : Prop := liveTellsRow.holds Try.pinned (OpenSpec.ofChange liveTellsWrong)

/- THE SECOND FORM. 'bulk': how many values and letters a reading holds, each counted each time it is reached (what is shared counts as often as it is met; a slice's spare places count too). A statement '..UptoSaid' is the law's where the arguments, and the package variables that the reading takes, are together of bulk at most 1048576: NARROWER than '..Said'. Prove '..Said' where nothing that the law and all that it calls make is longer than what came in: it says more and counts as full. Else prove '..UptoSaid'. A law counts once. -/
mutual
def uptoBulk {H : Type} : DataW H → Nat
  | .lit (.string bytes) => bytes.length + 1
  | .lit _ => 1
  | .nil => 1
  | .ptr d => uptoBulk d + 1
  | .slice elems spare => uptoBulkAll elems + uptoBulkAll spare + 1
  | .agg parts => uptoBulkAll parts + 1
  | .iface _ d => uptoBulk d + 1
  | .map entries => uptoBulkEntries entries + 1
  | .held _ => 1
def uptoBulkAll {H : Type} : List (DataW H) → Nat
  | [] => 0
  | d :: r => uptoBulk d + uptoBulkAll r
def uptoBulkEntries {H : Type} : List (Lit × DataW H) → Nat
  | [] => 0
  | x :: r => uptoBulkEntry x + uptoBulkEntries r
def uptoBulkEntry {H : Type} : Lit × DataW H → Nat
  | (.string bytes, d) => bytes.length + uptoBulk d + 1
  | (_, d) => uptoBulk d + 1
 end
def uptoSmall : (H : Type) → List (DataW H) → Bool := fun _ ds => decide (uptoBulkAll ds ≤ 1048576)
def OpenSpec.upto (s : _root_.Go.ChangeSpec) : _root_.Go.OpenSpec := { _root_.Go.OpenSpec.ofChange s with cond := some uptoSmall }

/-- 'scarfjointlaw.ColourHolds', WHERE WHAT IT READS IS OF BULK AT MOST 1048576: true; the input reads as it did. -/
def colourHoldsUptoRow : OpenClaim := { program := "ytkkjkbljgaipcaa", sum := "05bfa921fc665a062e75baad0db3cea2e2ef3a4a49c86ef5f80c2b0bedc5ec2d", func := "scarfjoint/scarfjointlaw.ColourHolds", spec := "colourHolds", inPlace := ["internal/bytealg.IndexByteString", "internal/bytealg.IndexString"], unfollowed := true, recurses := true, named := ["internal/bytealg.MaxLen"], loops := true, plainKeys := false, apart := false, narrowed := true }
def ColourHoldsUptoSaid : Prop := colourHoldsUptoRow.holds Try.pinned (OpenSpec.upto colourHoldsSpec)

/-- 'scarfjointlaw.TailTells', WHERE WHAT IT READS IS OF BULK AT MOST 1048576: true; the input reads as it did. -/
def tailTellsUptoRow : OpenClaim := { program := "ytkkjkbljgaipcaa", sum := "05bfa921fc665a062e75baad0db3cea2e2ef3a4a49c86ef5f80c2b0bedc5ec2d", func := "scarfjoint/scarfjointlaw.TailTells", spec := "tailTells", inPlace := ["internal/bytealg.IndexByteString", "internal/bytealg.IndexString"], unfollowed := true, recurses := true, named := ["internal/bytealg.MaxLen"], loops := true, plainKeys := false, apart := false, narrowed := true }
def TailTellsUptoSaid : Prop := tailTellsUptoRow.holds Try.pinned (OpenSpec.upto tailTellsSpec)

/-- 'scarfjointlaw.LiveTells', WHERE WHAT IT READS IS OF BULK AT MOST 1048576: true; the input reads as it did. -/
def liveTellsUptoRow : OpenClaim := { program := "ytkkjkbljgaipcaa", sum := "05bfa921fc665a062e75baad0db3cea2e2ef3a4a49c86ef5f80c2b0bedc5ec2d", func := "scarfjoint/scarfjointlaw.LiveTells", spec := "liveTells", inPlace := ["internal/bytealg.IndexByteString", "internal/bytealg.IndexString"], unfollowed := true, recurses := true, named := ["internal/bytealg.MaxLen"], loops := true, plainKeys := false, apart := false, narrowed := true }
def LiveTellsUptoSaid : Prop := liveTellsUptoRow.holds Try.pinned (OpenSpec.upto liveTellsSpec)

end Rows
end Go.Proofs.Ytkkjkbljgaipcaa
