/-
  NARROWER THAN 'FOR EVERY INPUT', by the rows' own cells (each row's printed sentence says how): ClientEnds: loops · ClientOfNothing: loops · ClientPlays: loops · ClientTrust: loops · ClientSeqs: loops.
  DERIVED. THE GIVEN ROWS OF THIS SEAT. 6 by the template 'for every input the law returns true; each argument reads behind the call as it read before'; 0 by the template 'total and deterministic' (their statements: YtdbaldohbjnlpaaGreatTotals.lean).
  GIVEN WITH THE SEED: the statements are not yours to turn. If you find one false, say at which input.
  Laid BY PROGRAM, IN A SANDBOX (cutbox-rows.mjs): the forced cells as the released guide's own fill.sh prints them over the translation 49babdb1f8b798c9… (all of the seat's roots in one cut). By AI agents, Wed Nov 11 2026. No macro, syntax, notation, axiom, sorry.
-/
import Derived.Test.YtdbaldohbjnlpaaGreatChecked
import GoSem.Claim
import GoSem.ClaimJoined
import GoSem.ClaimMapViews
import Derived.JoinedTies
import Derived.KernelRfl
namespace Go.Proofs.YtdbaldohbjnlpaaGreat
/- THE CELL 'sum', in the pinned program and in every row, IS THE sha256 OF THE DUMP (.gsa) THAT YtdbaldohbjnlpaaGreatProg.lean LOADS. Nothing in Lean hashes anything: it is a label: what it is worth is what the hold of that sum in a sandbox is worth. -/
noncomputable def Tryz.pinned : Pinned := { name := "ytdbaldohbjnlpaagreat", sum := "49babdb1f8b798c90e75a38628d512d768000b65c737023758d08970e1c6ea6d", checked := Tryz.checked }
namespace Rows
def none {H : Type} : Left H := { results := [], args := [] }

/-- 'scrivenerlaw27.ClientEnds': WHATEVER THE INPUT: true; the input reads as it did. -/
def clientEndsSpec : ChangeSpec := { name := "clientEnds", fn := fun _ => fun
  | [d1, d2] => { results := [.lit (.bool true)], args := [d1, d2] }
  | _ => none }
def clientEndsRow : OpenClaim := { program := "ytdbaldohbjnlpaagreat", sum := "49babdb1f8b798c90e75a38628d512d768000b65c737023758d08970e1c6ea6d", func := "scrivener/scrivenerlaw27.ClientEnds", spec := "clientEnds", unfollowed := true, recurses := true, loops := true, plainKeys := false, apart := false }
def ClientEndsSaid : Prop := clientEndsRow.holds Tryz.pinned (OpenSpec.ofChange clientEndsSpec)

/-- ITS FALSE NEIGHBOUR: 'it returns false'. Refute it at one input. -/
def clientEndsWrong : ChangeSpec := { name := "clientEnds", fn := fun _ => fun
  | [d1, d2] => { results := [.lit (.bool false)], args := [d1, d2] }
  | _ => none }
def ClientEndsWrongFalsely : Prop := clientEndsRow.holds Tryz.pinned (OpenSpec.ofChange clientEndsWrong)

/-- 'scrivenerlaw27.ClientTries': WHATEVER THE INPUT: true; the input reads as it did. -/
def clientTriesSpec : ChangeSpec := { name := "clientTries", fn := fun _ => fun
  | [d1, d2] => { results := [.lit (.bool true)], args := [d1, d2] }
  | _ => none }
def clientTriesRow : OpenClaim := { program := "ytdbaldohbjnlpaagreat", sum := "49babdb1f8b798c90e75a38628d512d768000b65c737023758d08970e1c6ea6d", func := "scrivener/scrivenerlaw27.ClientTries", spec := "clientTries", unfollowed := true, recurses := true, plainKeys := false, apart := false }
def ClientTriesSaid : Prop := clientTriesRow.holds Tryz.pinned (OpenSpec.ofChange clientTriesSpec)

/-- ITS FALSE NEIGHBOUR: 'it returns false'. Refute it at one input. -/
def clientTriesWrong : ChangeSpec := { name := "clientTries", fn := fun _ => fun
  | [d1, d2] => { results := [.lit (.bool false)], args := [d1, d2] }
  | _ => none }
def ClientTriesWrongFalsely : Prop := clientTriesRow.holds Tryz.pinned (OpenSpec.ofChange clientTriesWrong)

/-- 'scrivenerlaw27.ClientOfNothing': WHATEVER THE INPUT: true; the input reads as it did. -/
def clientOfNothingSpec : ChangeSpec := { name := "clientOfNothing", fn := fun _ => fun
  | [d1, d2] => { results := [.lit (.bool true)], args := [d1, d2] }
  | _ => none }
def clientOfNothingRow : OpenClaim := { program := "ytdbaldohbjnlpaagreat", sum := "49babdb1f8b798c90e75a38628d512d768000b65c737023758d08970e1c6ea6d", func := "scrivener/scrivenerlaw27.ClientOfNothing", spec := "clientOfNothing", unfollowed := true, recurses := true, loops := true, plainKeys := false, apart := false }
def ClientOfNothingSaid : Prop := clientOfNothingRow.holds Tryz.pinned (OpenSpec.ofChange clientOfNothingSpec)

/-- ITS FALSE NEIGHBOUR: 'it returns false'. Refute it at one input. -/
def clientOfNothingWrong : ChangeSpec := { name := "clientOfNothing", fn := fun _ => fun
  | [d1, d2] => { results := [.lit (.bool false)], args := [d1, d2] }
  | _ => none }
def ClientOfNothingWrongFalsely : Prop := clientOfNothingRow.holds Tryz.pinned (OpenSpec.ofChange clientOfNothingWrong)

/-- 'scrivenerlaw27.ClientPlays': WHATEVER THE INPUT: true; the input reads as it did. -/
def clientPlaysSpec : ChangeSpec := { name := "clientPlays", fn := fun _ => fun
  | [d1, d2, d3] => { results := [.lit (.bool true)], args := [d1, d2, d3] }
  | _ => none }
def clientPlaysRow : OpenClaim := { program := "ytdbaldohbjnlpaagreat", sum := "49babdb1f8b798c90e75a38628d512d768000b65c737023758d08970e1c6ea6d", func := "scrivener/scrivenerlaw27.ClientPlays", spec := "clientPlays", inPlace := ["math/bits.Add64", "math/bits.Sub64"], unfollowed := true, recurses := true, named := ["math/bits.divideError", "math/bits.overflowError"], loops := true, plainKeys := false, apart := false }
def ClientPlaysSaid : Prop := clientPlaysRow.holds Tryz.pinned (OpenSpec.ofChange clientPlaysSpec)

/-- ITS FALSE NEIGHBOUR: 'it returns false'. Refute it at one input. -/
def clientPlaysWrong : ChangeSpec := { name := "clientPlays", fn := fun _ => fun
  | [d1, d2, d3] => { results := [.lit (.bool false)], args := [d1, d2, d3] }
  | _ => none }
def ClientPlaysWrongFalsely : Prop := clientPlaysRow.holds Tryz.pinned (OpenSpec.ofChange clientPlaysWrong)

/-- 'scrivenerlaw27.ClientTrust': WHATEVER THE INPUT: true; the input reads as it did. -/
def clientTrustSpec : ChangeSpec := { name := "clientTrust", fn := fun _ => fun
  | [d] => { results := [.lit (.bool true)], args := [d] }
  | _ => none }
def clientTrustRow : OpenClaim := { program := "ytdbaldohbjnlpaagreat", sum := "49babdb1f8b798c90e75a38628d512d768000b65c737023758d08970e1c6ea6d", func := "scrivener/scrivenerlaw27.ClientTrust", spec := "clientTrust", inPlace := ["math/bits.Add64", "math/bits.Sub64"], unfollowed := true, recurses := true, named := ["math/bits.divideError", "math/bits.overflowError"], loops := true, plainKeys := false, apart := false }
def ClientTrustSaid : Prop := clientTrustRow.holds Tryz.pinned (OpenSpec.ofChange clientTrustSpec)

/-- ITS FALSE NEIGHBOUR: 'it returns false'. Refute it at one input. -/
def clientTrustWrong : ChangeSpec := { name := "clientTrust", fn := fun _ => fun
  | [d] => { results := [.lit (.bool false)], args := [d] }
  | _ => none }
def ClientTrustWrongFalsely : Prop := clientTrustRow.holds Tryz.pinned (OpenSpec.ofChange clientTrustWrong)

/-- 'scrivenerlaw27.ClientSeqs': WHATEVER THE INPUT: true; the input reads as it did. -/
def clientSeqsSpec : ChangeSpec := { name := "clientSeqs", fn := fun _ => fun
  | [d] => { results := [.lit (.bool true)], args := [d] }
  | _ => none }
def clientSeqsRow : OpenClaim := { program := "ytdbaldohbjnlpaagreat", sum := "49babdb1f8b798c90e75a38628d512d768000b65c737023758d08970e1c6ea6d", func := "scrivener/scrivenerlaw27.ClientSeqs", spec := "clientSeqs", inPlace := ["math/bits.Add64", "math/bits.Sub64"], unfollowed := true, recurses := true, named := ["math/bits.divideError", "math/bits.overflowError"], loops := true, plainKeys := false, apart := false }
def ClientSeqsSaid : Prop := clientSeqsRow.holds Tryz.pinned (OpenSpec.ofChange clientSeqsSpec)

/-- ITS FALSE NEIGHBOUR: 'it returns false'. Refute it at one input. -/
def clientSeqsWrong : ChangeSpec := { name := "clientSeqs", fn := fun _ => fun
  | [d] => { results := [.lit (.bool false)], args := [d] }
  | _ => none }
def ClientSeqsWrongFalsely : Prop := clientSeqsRow.holds Tryz.pinned (OpenSpec.ofChange clientSeqsWrong)

/- THE SECOND FORM. 'bulk': how many values and letters a reading holds, each counted each time it is reached (what is shared counts as often as it is met; a slice's spare places count too). A statement '..UptoSaid' is the law's where the arguments, and the package variables that the reading takes, are together of bulk at most 1048576: NARROWER than '..Said'. Prove '..Said' where nothing that the law and all that it calls make is longer than what came in: it says more and counts as full. Else prove '..UptoSaid'. A law counts once. -/
mutual
def uptoBulk {H : Type} : DataW H → Nat
  | .lit (.string bytes) => bytes.length + 1
  | .lit _ => 1
  | .nil => 1
  | .ptr d => uptoBulk d + 1
  | .slice elems spare => uptoBulkAll elems + uptoBulkAll spare + 1
  | .agg parts => uptoBulkAll parts + 1
  | .iface _ d => uptoBulk d + 1
  | .map entries => uptoBulkEntries entries + 1
  | .held _ => 1
def uptoBulkAll {H : Type} : List (DataW H) → Nat
  | [] => 0
  | d :: r => uptoBulk d + uptoBulkAll r
def uptoBulkEntries {H : Type} : List (Lit × DataW H) → Nat
  | [] => 0
  | x :: r => uptoBulkEntry x + uptoBulkEntries r
def uptoBulkEntry {H : Type} : Lit × DataW H → Nat
  | (.string bytes, d) => bytes.length + uptoBulk d + 1
  | (_, d) => uptoBulk d + 1
 end
def uptoSmall : (H : Type) → List (DataW H) → Bool := fun _ ds => decide (uptoBulkAll ds ≤ 1048576)
def OpenSpec.upto (s : _root_.Go.ChangeSpec) : _root_.Go.OpenSpec := { _root_.Go.OpenSpec.ofChange s with cond := some uptoSmall }

/-- 'scrivenerlaw27.ClientEnds', WHERE WHAT IT READS IS OF BULK AT MOST 1048576: true; the input reads as it did. -/
def clientEndsUptoRow : OpenClaim := { program := "ytdbaldohbjnlpaagreat", sum := "49babdb1f8b798c90e75a38628d512d768000b65c737023758d08970e1c6ea6d", func := "scrivener/scrivenerlaw27.ClientEnds", spec := "clientEnds", unfollowed := true, recurses := true, loops := true, plainKeys := false, apart := false, narrowed := true }
def ClientEndsUptoSaid : Prop := clientEndsUptoRow.holds Tryz.pinned (OpenSpec.upto clientEndsSpec)

/-- 'scrivenerlaw27.ClientTries', WHERE WHAT IT READS IS OF BULK AT MOST 1048576: true; the input reads as it did. -/
def clientTriesUptoRow : OpenClaim := { program := "ytdbaldohbjnlpaagreat", sum := "49babdb1f8b798c90e75a38628d512d768000b65c737023758d08970e1c6ea6d", func := "scrivener/scrivenerlaw27.ClientTries", spec := "clientTries", unfollowed := true, recurses := true, plainKeys := false, apart := false, narrowed := true }
def ClientTriesUptoSaid : Prop := clientTriesUptoRow.holds Tryz.pinned (OpenSpec.upto clientTriesSpec)

/-- 'scrivenerlaw27.ClientOfNothing', WHERE WHAT IT READS IS OF BULK AT MOST 1048576: true; the input reads as it did. -/
def clientOfNothingUptoRow : OpenClaim := { program := "ytdbaldohbjnlpaagreat", sum := "49babdb1f8b798c90e75a38628d512d768000b65c737023758d08970e1c6ea6d", func := "scrivener/scrivenerlaw27.ClientOfNothing", spec := "clientOfNothing", unfollowed := true, recurses := true, loops := true, plainKeys := false, apart := false, narrowed := true }
def ClientOfNothingUptoSaid : Prop := clientOfNothingUptoRow.holds Tryz.pinned (OpenSpec.upto clientOfNothingSpec)

/-- 'scrivenerlaw27.ClientPlays', WHERE WHAT IT READS IS OF BULK AT MOST 1048576: true; the input reads as it did. -/
def clientPlaysUptoRow : OpenClaim := { program := "ytdbaldohbjnlpaagreat", sum := "49babdb1f8b798c90e75a38628d512d768000b65c737023758d08970e1c6ea6d", func := "scrivener/scrivenerlaw27.ClientPlays", spec := "clientPlays", inPlace := ["math/bits.Add64", "math/bits.Sub64"], unfollowed := true, recurses := true, named := ["math/bits.divideError", "math/bits.overflowError"], loops := true, plainKeys := false, apart := false, narrowed := true }
def ClientPlaysUptoSaid : Prop := clientPlaysUptoRow.holds Tryz.pinned (OpenSpec.upto clientPlaysSpec)

/-- 'scrivenerlaw27.ClientTrust', WHERE WHAT IT READS IS OF BULK AT MOST 1048576: true; the input reads as it did. -/
def clientTrustUptoRow : OpenClaim := { program := "ytdbaldohbjnlpaagreat", sum := "49babdb1f8b798c90e75a38628d512d768000b65c737023758d08970e1c6ea6d", func := "scrivener/scrivenerlaw27.ClientTrust", spec := "clientTrust", inPlace := ["math/bits.Add64", "math/bits.Sub64"], unfollowed := true, recurses := true, named := ["math/bits.divideError", "math/bits.overflowError"], loops := true, plainKeys := false, apart := false, narrowed := true }
def ClientTrustUptoSaid : Prop := clientTrustUptoRow.holds Tryz.pinned (OpenSpec.upto clientTrustSpec)

/-- 'scrivenerlaw27.ClientSeqs', WHERE WHAT IT READS IS OF BULK AT MOST 1048576: true; the input reads as it did. -/
def clientSeqsUptoRow : OpenClaim := { program := "ytdbaldohbjnlpaagreat", sum := "49babdb1f8b798c90e75a38628d512d768000b65c737023758d08970e1c6ea6d", func := "scrivener/scrivenerlaw27.ClientSeqs", spec := "clientSeqs", inPlace := ["math/bits.Add64", "math/bits.Sub64"], unfollowed := true, recurses := true, named := ["math/bits.divideError", "math/bits.overflowError"], loops := true, plainKeys := false, apart := false, narrowed := true }
def ClientSeqsUptoSaid : Prop := clientSeqsUptoRow.holds Tryz.pinned (OpenSpec.upto clientSeqsSpec)

end Rows
end Go.Proofs.YtdbaldohbjnlpaaGreat
