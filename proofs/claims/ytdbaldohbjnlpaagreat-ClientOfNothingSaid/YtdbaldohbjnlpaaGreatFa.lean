/- What the row says of the program's own text, fact by fact. -/
import Derived.Test.YtdbaldohbjnlpaaGreatRows
import Derived.JoinedOf
import Derived.KernelRfl
namespace Go.Proofs.YtdbaldohbjnlpaaGreat.clientOfNothing
theorem q1 : (laidOutB Tryz.pinned.checked.prog) = true := by kernel_rfl
theorem q9 : ((Rows.clientOfNothingRow.inPlace == Tryz.pinned.checked.prog.inPlace 5)) = true := by kernel_rfl
theorem q25 : (Tryz.pinned.checked.prog.mayEnter) = true := by kernel_rfl
end Go.Proofs.YtdbaldohbjnlpaaGreat.clientOfNothing
