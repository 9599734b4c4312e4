/- ClientOfNothing returns true for every message and every row of statements, and leaves what came in as it was: no condition. (What heavyJobs answers decides nothing: behind it the run hangs on the arguments nowhere.) -/
import Derived.Test.YtdbaldohbjnlpaaGreatRows
import Derived.Test.YtdbaldohbjnlpaaGreatG3
import Derived.Test.YtdbaldohbjnlpaaGreatFc
import Derived.WalkKit
import Derived.ProofKit
import Derived.OpenShut
namespace Go.Proofs.YtdbaldohbjnlpaaGreat.clientOfNothing
open Go.ChangeShapes Go.WideShapes Go.ChangeAt Go.RowKit
set_option linter.unusedVariables false

theorem own : ownKnob Tryz.prog.godebug = none := by kernel_rfl
theorem laid : laidOutB Tryz.prog = true := by kernel_rfl

open Go.Ab in
theorem walk (xs : List AV) (h : F2 (TyA Tryz.prog) Tryz.f5.params.toList xs) : Ab.Fn Tryz.prog 5 xs (fun _ => none) 0 (fun r _ _ => r = .c (.bool true)) := by
  rw [Tryz.params5] at h
  cases h with
  | cons h1 h =>
    cases h with
    | cons h2 h =>
      cases h
      obtain ⟨f, t, ds, c, rfl, l1⟩ := tyMsg h1
      obtain ⟨js, c', rfl, l2, hj⟩ := tyJob h2
      exact F5 f t ds c js c' l1 l2 hj

set_option maxRecDepth 100000 in
theorem lifted (os : Os) (started : os.Started) (H : Type) (enc : TypeId × Value → H) :
    ReturnsInHanded {} Tryz.checked os 5 .any (Rows.clientOfNothingSpec.pre6 enc Tryz.prog Tryz.f5 Rows.clientOfNothingRow.domain false) (Rows.clientOfNothingSpec.post enc Tryz.prog Tryz.f5 false true false false) := by
  refine returnsInHanded_of_change (C := Tryz.checked) own started (by kernel_rfl) Tryz.func5
    (ChangeSpec.witness6 (enc := enc) (C := Tryz.checked) false ⟨#[], #[.agg #[.int .i64 0, .int .i64 0, .slice none 0 0], .slice none 0 0], []⟩ 8 (by kernel_rfl) (by kernel_rfl) (by kernel_rfl) (by kernel_rfl)) ?_
  intro W base args ds gs before hval0 hW hcnd _
  have hW' := hW
  obtain ⟨p, q, hA0, hV, rfl, hfz, hnd⟩ := hW
  have hA : DataW.TrodAll enc Tryz.prog W 0 (fun _ => true) true Tryz.f5.params.toList args.toList ds p := hA0
  rw [Tryz.params5] at hA
  obtain ⟨v0, vs0, d0, ds0, p0, q0, hargs, rfl, rfl, h0, r0⟩ := trodAll_cons hA
  obtain ⟨v1, vs1, d1, ds1, p1, q1, rfl, rfl, rfl, h1, r1⟩ := trodAll_cons r0
  obtain ⟨rfl, rfl, rfl⟩ := trodAll_nil r1
  obtain ⟨rfl, rfl⟩ := trodVars_none hV
  exact Ab.law_end (P := Tryz.prog) (fn := Tryz.f5) laid (by kernel_rfl) walk hW' hval0 rfl Tryz.underlying4 (by kernel_rfl) rfl rfl rfl

theorem named : Tryz.pinned.checked.prog.funcNamed Rows.clientOfNothingRow.func = some 5 := by kernel_rfl
theorem inst : Tryz.f5.isInstance Tryz.pinned.checked.prog Rows.clientOfNothingRow.origin Rows.clientOfNothingRow.targs := of_decide_eq_true (by kernel_rfl)
theorem wrap : Tryz.f5.isWrapper Tryz.pinned.checked.prog Rows.clientOfNothingRow.wrapper Rows.clientOfNothingRow.mainSum := by
  unfold Func.isWrapper; first | (rw [if_pos (by decide +kernel)]; kernel_rfl) | (rw [if_neg (by decide +kernel)]; exact ⟨rfl, rfl⟩)

theorem over : Rows.clientOfNothingRow.holds Tryz.pinned (OpenSpec.ofChange Rows.clientOfNothingSpec) :=
  OpenClaim.holds_of_wide 5 Tryz.f5 rfl rfl rfl rfl rfl rfl rfl ⟨rfl, rfl, rfl, rfl, rfl⟩ rfl rfl rfl rfl rfl named Tryz.func5 facts inst wrap
    (fun os started H enc _ => lifted os started H enc)

theorem proved : Rows.ClientOfNothingSaid :=
  over
#print axioms proved
end Go.Proofs.YtdbaldohbjnlpaaGreat.clientOfNothing
