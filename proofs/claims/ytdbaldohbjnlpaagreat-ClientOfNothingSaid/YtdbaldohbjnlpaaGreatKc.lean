import Derived.Test.YtdbaldohbjnlpaaGreatCode2
set_option maxRecDepth 1000000
set_option linter.unusedVariables false
namespace Go.Proofs.YtdbaldohbjnlpaaGreat
open Go.Ab

theorem known_run : gives (.c (.bool true)) (fnE tab [] [] 3000 60 11 [] [] 0) = true := by kernel_rfl
/-- The closed call: the first message of a client. -/
theorem F11 (h : Heap) (n : Nat) : Ab.Fn Tryz.prog 11 [] h n (fun r h' n' => r = .c (.bool true) ∧ h' = h ∧ n' = n) :=
  (closed_gives (H0 := []) tabOk trivial 3000 60 11 [] (.c (.bool true)) (by kernel_rfl) (by kernel_rfl) known_run).2 h n
end Go.Proofs.YtdbaldohbjnlpaaGreat
