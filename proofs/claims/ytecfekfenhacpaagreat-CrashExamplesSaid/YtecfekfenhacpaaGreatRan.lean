/- The evaluator's run of CrashExamples. -/
import Derived.Test.YtecfekfenhacpaaGreatSort
namespace Go.Proofs.YtecfekfenhacpaaGreat.crashExamples
open Go.Ab
theorem ran : callN Tryz.prog joinB over 70000 100 4 [] mem0 fin = some true := by kernel_rfl
end Go.Proofs.YtecfekfenhacpaaGreat.crashExamples
