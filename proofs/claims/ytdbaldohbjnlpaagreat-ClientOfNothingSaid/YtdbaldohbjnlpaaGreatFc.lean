/- What the row says of the program's own text, fact by fact. -/
import Derived.Test.YtdbaldohbjnlpaaGreatRows
import Derived.JoinedOf
import Derived.KernelRfl
import Derived.Test.YtdbaldohbjnlpaaGreatFa
import Derived.Test.YtdbaldohbjnlpaaGreatFb
namespace Go.Proofs.YtdbaldohbjnlpaaGreat.clientOfNothing
theorem q0 : (Rows.clientOfNothingRow.wf (OpenSpec.ofChange Rows.clientOfNothingSpec)) = true := by kernel_rfl
theorem q3 : (Tryz.f5.params.all (Tryz.pinned.checked.prog.readableRec ·)) = true := by kernel_rfl
theorem q4 : (namedTie Tryz.pinned.checked.prog Rows.clientOfNothingRow.named Rows.clientOfNothingSpec.vars) = true := by kernel_rfl
theorem q5 : ((Rows.clientOfNothingRow.stops == [])) = true := by kernel_rfl
theorem q6 : ((Tryz.pinned.checked.prog.stops == [])) = true := by kernel_rfl
theorem q7 : ((Rows.clientOfNothingRow.knobs == [])) = true := by kernel_rfl
theorem q8 : ((Tryz.pinned.checked.prog.stopKnobs == [])) = true := by kernel_rfl
theorem q11 : ((Rows.clientOfNothingRow.recurses == Tryz.pinned.checked.prog.recurses 5)) = true := by kernel_rfl
theorem q13 : ((Rows.clientOfNothingRow.maps == (Tryz.f5.params.toList ++ Rows.clientOfNothingSpec.plain.varTypes Tryz.pinned.checked.prog).any (Tryz.pinned.checked.prog.mapsRec ·))) = true := by kernel_rfl
theorem q14 : ((Rows.clientOfNothingRow.ifaces == (Tryz.f5.params.toList ++ Rows.clientOfNothingSpec.plain.varTypes Tryz.pinned.checked.prog).any (Tryz.pinned.checked.prog.ifacesRec ·))) = true := by kernel_rfl
theorem q15 : ((Rows.clientOfNothingRow.mapsOut == Tryz.pinned.checked.prog.mapsAmong Tryz.f5.resultTypes.toList)) = true := by kernel_rfl
theorem q16 : ((Rows.clientOfNothingRow.loops == (Tryz.f5.params.toList ++ Rows.clientOfNothingSpec.plain.varTypes Tryz.pinned.checked.prog).any (Tryz.pinned.checked.prog.loopsFrom ·))) = true := by kernel_rfl
theorem q17 : ((Rows.clientOfNothingRow.wideKeys == (Tryz.f5.params.toList ++ Rows.clientOfNothingSpec.plain.varTypes Tryz.pinned.checked.prog ++ Tryz.f5.resultTypes.toList).any (Tryz.pinned.checked.prog.wideKeysFrom ·))) = true := by kernel_rfl
theorem q18 : (Rows.clientOfNothingSpec.vars.all (Tryz.pinned.checked.prog.varReadable ·)) = true := by kernel_rfl
theorem q19 : (Tryz.f5.resultTypes.all (fun t => Tryz.pinned.checked.prog.readableRec t && decide (t < Tryz.pinned.checked.prog.types.size))) = true := by kernel_rfl
theorem q20 : ((Rows.clientOfNothingRow.ifacesOut == Tryz.f5.resultTypes.toList.any (Tryz.pinned.checked.prog.ifacesRec ·))) = true := by kernel_rfl
theorem q21 : ((Rows.clientOfNothingRow.loopsOut == Tryz.f5.resultTypes.toList.any (Tryz.pinned.checked.prog.loopsFrom ·))) = true := by kernel_rfl
theorem q22 : ((Rows.clientOfNothingRow.plainKeys == Tryz.pinned.checked.prog.plainKeys)) = true := by kernel_rfl
theorem q23 : (Rows.clientOfNothingRow.shortTexts.isNone) = true := by kernel_rfl
theorem q24 : (Tryz.pinned.checked.prog.stopsHeard) = true := by kernel_rfl
theorem q26 : ((Rows.clientOfNothingRow.lifted == Tryz.pinned.checked.prog.liftsFinal)) = true := by kernel_rfl
theorem q27 : ((Tryz.pinned.checked.prog.make == some Rows.clientOfNothingRow.make)) = true := by kernel_rfl
theorem q28 : ((Rows.clientOfNothingRow.kinds == (if Rows.clientOfNothingRow.domain.isEmpty then [] else Tryz.f5.params.toList.map fun t => match Tryz.pinned.checked.prog.underlying t with | some (.int k) => some k | _ => none))) = true := by kernel_rfl
theorem q29 : ((Rows.clientOfNothingRow.pinned == Rows.clientOfNothingRow.pinnedBy)) = true := by kernel_rfl
theorem q30 : ((Rows.clientOfNothingRow.veiled == (Tryz.f5.params.toList ++ Rows.clientOfNothingSpec.plain.varTypes Tryz.pinned.checked.prog ++ Tryz.f5.resultTypes.toList).any (Tryz.pinned.checked.prog.veiledRec ·))) = true := by kernel_rfl
theorem q31 : (Rows.clientOfNothingRow.veiledFits Tryz.pinned.checked.prog Tryz.f5.params.toList (Tryz.f5.params.toList ++ Rows.clientOfNothingSpec.plain.varTypes Tryz.pinned.checked.prog ++ Tryz.f5.resultTypes.toList)) = true := by kernel_rfl
theorem and2 {a b : Bool} (ha : a = true) (hb : b = true) : (a && b) = true := by rw [ha, hb]; rfl
set_option maxRecDepth 100000 in
theorem facts : joinedFacts Tryz.pinned.checked.prog 5 Tryz.f5 Rows.clientOfNothingSpec Rows.clientOfNothingRow = true := by
  unfold joinedFacts
  exact and2 (and2 (and2 (and2 (and2 (and2 (and2 (and2 (and2 (and2 (and2 (and2 (and2 (and2 (and2 (and2 (and2 (and2 (and2 (and2 (and2 (and2 (and2 (and2 (and2 (and2 (and2 (and2 (and2 (and2 (and2 q0 q1) q2) q3) q4) q5) q6) q7) q8) q9) q10) q11) q12) q13) q14) q15) q16) q17) q18) q19) q20) q21) q22) q23) q24) q25) q26) q27) q28) q29) q30) q31
end Go.Proofs.YtdbaldohbjnlpaaGreat.clientOfNothing
