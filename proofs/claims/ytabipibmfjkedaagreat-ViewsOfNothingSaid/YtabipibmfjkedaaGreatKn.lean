import Derived.Test.YtabipibmfjkedaaGreatCode1
set_option maxRecDepth 1000000
set_option linter.unusedVariables false
namespace Go.Proofs.YtabipibmfjkedaaGreat
open Go.Ab

def ha0 : List AV := [.c (.sl 1 [[.int .u8 0], [.int .u8 3], [.int .u8 2]] .none)]
def hr0 : AV := (.agg [.int .u8 202, .int .u8 23, .int .u8 91, .int .u8 123, .int .u8 151, .int .u8 228, .int .u8 24, .int .u8 15, .int .u8 244, .int .u8 177, .int .u8 220, .int .u8 19, .int .u8 39, .int .u8 31, .int .u8 137, .int .u8 122, .int .u8 125, .int .u8 113, .int .u8 29, .int .u8 109, .int .u8 165, .int .u8 61, .int .u8 221, .int .u8 17, .int .u8 45, .int .u8 96, .int .u8 191, .int .u8 74, .int .u8 193, .int .u8 0, .int .u8 226, .int .u8 62])
theorem hh0 : gives hr0 (fnE tab [] [] 200 12 155 ha0 [] 0) = true := by kernel_rfl
def ha1 : List AV := [.c (.sl 1 [[.int .u8 0], [.int .u8 3], [.int .u8 2]] .none)]
def hr1 : AV := (.agg [.int .u8 202, .int .u8 23, .int .u8 91, .int .u8 123, .int .u8 151, .int .u8 228, .int .u8 24, .int .u8 15, .int .u8 244, .int .u8 177, .int .u8 220, .int .u8 19, .int .u8 39, .int .u8 31, .int .u8 137, .int .u8 122, .int .u8 125, .int .u8 113, .int .u8 29, .int .u8 109, .int .u8 165, .int .u8 61, .int .u8 221, .int .u8 17, .int .u8 45, .int .u8 96, .int .u8 191, .int .u8 74, .int .u8 193, .int .u8 0, .int .u8 226, .int .u8 62])
theorem hh1 : gives hr1 (fnE tab [] [] 200 12 178 ha1 [] 0) = true := by kernel_rfl
def hfs : List Nat := [155, 178]
def hints : Hints := [(155, ha0, hr0), (178, ha1, hr1)]
theorem hintsOk : HintsOk Tryz.prog hints := ⟨closed_gives tabOk (H0 := []) trivial 200 12 155 ha0 hr0 (by kernel_rfl) (by kernel_rfl) hh0, closed_gives tabOk (H0 := []) trivial 200 12 178 ha1 hr1 (by kernel_rfl) (by kernel_rfl) hh1, trivial⟩

theorem known_run : gives (.c (.bool true)) (fnE tab hfs hints 3000 60 13 [] [] 0) = true := by kernel_rfl
/-- The closed call: a document of two versions. -/
theorem F13 (h : Heap) (n : Nat) : Ab.Fn Tryz.prog 13 [] h n (fun r h' n' => r = .c (.bool true) ∧ h' = h ∧ n' = n) :=
  (closed_gives tabOk hintsOk 3000 60 13 [] (.c (.bool true)) (by kernel_rfl) (by kernel_rfl) known_run).2 h n
end Go.Proofs.YtabipibmfjkedaaGreat
