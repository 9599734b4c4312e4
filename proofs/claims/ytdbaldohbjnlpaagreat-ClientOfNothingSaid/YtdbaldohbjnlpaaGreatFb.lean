/- What the row says of the program's own text, fact by fact. -/
import Derived.Test.YtdbaldohbjnlpaaGreatRows
import Derived.JoinedOf
import Derived.KernelRfl
namespace Go.Proofs.YtdbaldohbjnlpaaGreat.clientOfNothing
theorem q2 : (mapsRowed Tryz.pinned.checked.prog) = true := by kernel_rfl
theorem q10 : ((Rows.clientOfNothingRow.unfollowed == Tryz.pinned.checked.prog.unfollowed 5)) = true := by kernel_rfl
theorem q12 : ((Rows.clientOfNothingRow.named == Tryz.pinned.checked.prog.varsNamed 5)) = true := by kernel_rfl
end Go.Proofs.YtdbaldohbjnlpaaGreat.clientOfNothing
