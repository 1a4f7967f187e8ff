/-
  No cell of these rows narrows 'for every input' (looked for: loops, veiled, ifaces, maps, wideKeys, modest, calm, conditions, laid).
  DERIVED. THE GIVEN ROWS OF THIS SEAT. 2 by the template 'for every input the law returns true; each argument reads behind the call as it read before'; 0 by the template 'total and deterministic' (their statements: YtecfekfenhacpaaTotals.lean).
  GIVEN WITH THE SEED: the statements are not yours to turn. If you find one false, say at which input.
  Laid BY PROGRAM, IN A SANDBOX (cutbox-rows.mjs): the forced cells as the released guide's own fill.sh prints them over the translation 20d11705dc03bc6c… (all of the seat's roots in one cut). By AI agents, Wed Nov 11 2026. No macro, syntax, notation, axiom, sorry.
-/
import Derived.Test.YtecfekfenhacpaaChecked
import GoSem.Claim
import GoSem.ClaimJoined
import GoSem.ClaimMapViews
import Derived.JoinedTies
import Derived.KernelRfl
namespace Go.Proofs.Ytecfekfenhacpaa
/- THE CELL 'sum', in the pinned program and in every row, IS THE sha256 OF THE DUMP (.gsa) THAT YtecfekfenhacpaaProg.lean LOADS. Nothing in Lean hashes anything: it is a label: what it is worth is what the hold of that sum in a sandbox is worth. -/
noncomputable def Try.pinned : Pinned := { name := "ytecfekfenhacpaa", sum := "20d11705dc03bc6cfa5e9d51f7893467704990937be9a7aab842657188424083", checked := Try.checked }
namespace Rows
def none {H : Type} : Left H := { results := [], args := [] }

/-- 'sacristanlaw36.AuditExamples': WHATEVER THE INPUT: true; the input reads as it did. -/
def auditExamplesSpec : ChangeSpec := { name := "auditExamples", fn := fun _ => fun
  | [] => { results := [.lit (.bool true)], args := [] }
  | _ => none }
def auditExamplesRow : OpenClaim := { program := "ytecfekfenhacpaa", sum := "20d11705dc03bc6cfa5e9d51f7893467704990937be9a7aab842657188424083", func := "sacristan/sacristanlaw36.AuditExamples", spec := "auditExamples", unfollowed := true, recurses := true, plainKeys := false, apart := false }
def AuditExamplesSaid : Prop := auditExamplesRow.holds Try.pinned (OpenSpec.ofChange auditExamplesSpec)

/-- ITS FALSE NEIGHBOUR: 'it returns false'. Refute it at one input. -/
def auditExamplesWrong : ChangeSpec := { name := "auditExamples", fn := fun _ => fun
  | [] => { results := [.lit (.bool false)], args := [] }
  | _ => none }
def AuditExamplesWrongFalsely : Prop := auditExamplesRow.holds Try.pinned (OpenSpec.ofChange auditExamplesWrong)

/-- 'sacristanlaw36.AuditSingle': WHATEVER THE INPUT: true; the input reads as it did. -/
def auditSingleSpec : ChangeSpec := { name := "auditSingle", fn := fun _ => fun
  | [d1, d2, d3] => { results := [.lit (.bool true)], args := [d1, d2, d3] }
  | _ => none }
def auditSingleRow : OpenClaim := { program := "ytecfekfenhacpaa", sum := "20d11705dc03bc6cfa5e9d51f7893467704990937be9a7aab842657188424083", func := "sacristan/sacristanlaw36.AuditSingle", spec := "auditSingle", unfollowed := true, recurses := true, plainKeys := false, apart := false }
def AuditSingleSaid : Prop := auditSingleRow.holds Try.pinned (OpenSpec.ofChange auditSingleSpec)

/-- ITS FALSE NEIGHBOUR: 'it returns false'. Refute it at one input. -/
def auditSingleWrong : ChangeSpec := { name := "auditSingle", fn := fun _ => fun
  | [d1, d2, d3] => { results := [.lit (.bool false)], args := [d1, d2, d3] }
  | _ => none }
def AuditSingleWrongFalsely : Prop := auditSingleRow.holds Try.pinned (OpenSpec.ofChange auditSingleWrong)

/- THE SECOND FORM. 'bulk': how many values and letters a reading holds, each counted each time it is reached (what is shared counts as often as it is met; a slice's spare places count too). A statement '..UptoSaid' is the law's where the arguments, and the package variables that the reading takes, are together of bulk at most 1048576: NARROWER than '..Said'. Prove '..Said' where nothing that the law and all that it calls make is longer than what came in: it says more and counts as full. Else prove '..UptoSaid'. A law counts once. -/
mutual
def uptoBulk {H : Type} : DataW H → Nat
  | .lit (.string bytes) => bytes.length + 1
  | .lit _ => 1
  | .nil => 1
  | .ptr d => uptoBulk d + 1
  | .slice elems spare => uptoBulkAll elems + uptoBulkAll spare + 1
  | .agg parts => uptoBulkAll parts + 1
  | .iface _ d => uptoBulk d + 1
  | .map entries => uptoBulkEntries entries + 1
  | .held _ => 1
def uptoBulkAll {H : Type} : List (DataW H) → Nat
  | [] => 0
  | d :: r => uptoBulk d + uptoBulkAll r
def uptoBulkEntries {H : Type} : List (Lit × DataW H) → Nat
  | [] => 0
  | x :: r => uptoBulkEntry x + uptoBulkEntries r
def uptoBulkEntry {H : Type} : Lit × DataW H → Nat
  | (.string bytes, d) => bytes.length + uptoBulk d + 1
  | (_, d) => uptoBulk d + 1
 end
def uptoSmall : (H : Type) → List (DataW H) → Bool := fun _ ds => decide (uptoBulkAll ds ≤ 1048576)
def OpenSpec.upto (s : _root_.Go.ChangeSpec) : _root_.Go.OpenSpec := { _root_.Go.OpenSpec.ofChange s with cond := some uptoSmall }

/-- 'sacristanlaw36.AuditExamples', WHERE WHAT IT READS IS OF BULK AT MOST 1048576: true; the input reads as it did. -/
def auditExamplesUptoRow : OpenClaim := { program := "ytecfekfenhacpaa", sum := "20d11705dc03bc6cfa5e9d51f7893467704990937be9a7aab842657188424083", func := "sacristan/sacristanlaw36.AuditExamples", spec := "auditExamples", unfollowed := true, recurses := true, plainKeys := false, apart := false, narrowed := true }
def AuditExamplesUptoSaid : Prop := auditExamplesUptoRow.holds Try.pinned (OpenSpec.upto auditExamplesSpec)

/-- 'sacristanlaw36.AuditSingle', WHERE WHAT IT READS IS OF BULK AT MOST 1048576: true; the input reads as it did. -/
def auditSingleUptoRow : OpenClaim := { program := "ytecfekfenhacpaa", sum := "20d11705dc03bc6cfa5e9d51f7893467704990937be9a7aab842657188424083", func := "sacristan/sacristanlaw36.AuditSingle", spec := "auditSingle", unfollowed := true, recurses := true, plainKeys := false, apart := false, narrowed := true }
def AuditSingleUptoSaid : Prop := auditSingleUptoRow.holds Try.pinned (OpenSpec.upto auditSingleSpec)

end Rows
end Go.Proofs.Ytecfekfenhacpaa
