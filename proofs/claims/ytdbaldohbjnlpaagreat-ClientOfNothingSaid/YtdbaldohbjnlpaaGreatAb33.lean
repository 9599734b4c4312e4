/- A piece of code, run by the evaluator in the middle of a walk. -/
import Derived.Test.YtdbaldohbjnlpaaGreatAb31
set_option linter.unusedVariables false
namespace Go.Ab

def BItem.plain : BItem → Bool
  | .o _ => true
  | .g .. => false
/-- Code without groups. -/
def BCode.plain : BCode → Bool
  | .seq a b | .cond _ a b => a.plain && b.plain
  | .reg xs _ => xs.all BItem.plain
  | .block _ c | .loop c => c.plain
  | _ => true

theorem regB_of_flat {P : Program} : ∀ {xs : List BItem} {S : St} {K : St → Prop}, xs.all BItem.plain = true → regA P (flatT xs) S K → regB P xs S K
  | [], _, _, _, h => h
  | .o x :: r, S, K, hp, h => by
    rw [flatT, regA] at h
    rw [regB]
    exact operA_mono (fun S' h' => regB_of_flat (by simpa [BItem.plain] using hp) h') h
  | .g .. :: r, S, K, hp, h => by simp [BItem.plain] at hp

theorem wpB_of_flat {P : Program} : ∀ (bc : BCode) {S : St} {Q : Exit → St → Prop}, bc.plain = true → wpA P bc.flat S Q → wpB P bc S Q
  | .skip, _, _, _, h => h
  | .seq a b, S, Q, hp, h => by
    simp only [BCode.plain, Bool.and_eq_true] at hp
    simp only [BCode.flat, wpA] at h
    simp only [wpB]
    refine wpB_of_flat a hp.1 (wpA_mono _ (fun e S' h' => ?_) h)
    cases e with
    | normal => exact wpB_of_flat b hp.2 h'
    | _ => exact h'
  | .reg xs keep, S, Q, hp, h => regB_of_flat hp h
  | .regd .., _, _, _, h => h
  | .cond c a b, S, Q, hp, h => by
    simp only [BCode.plain, Bool.and_eq_true] at hp
    simp only [BCode.flat, wpA] at h
    simp only [wpB]
    split at h
    · rename_i t ht
      rw [ht]
      exact ⟨fun t => wpB_of_flat a hp.1 (h.1 t), fun t => wpB_of_flat b hp.2 (h.2 t)⟩
    · exact h.elim
  | .block id c, S, Q, hp, h => by
    simp only [BCode.plain] at hp
    exact wpB_of_flat c hp h
  | .loop c, S, Q, hp, h => by
    simp only [BCode.plain] at hp
    obtain ⟨I, m, h1, h2⟩ := h
    exact ⟨I, m, h1, fun S' hS => wpB_of_flat c hp (h2 S' hS)⟩
  | .exit .., _, _, _, h => h
  | .ret, _, _, _, h => h

/-- A piece of code comes to an end, with results as told. -/
def endsB (rs : List ARes) (r : AV) (o : Option (Exit × SE)) : Bool := match o with
  | some (.normal, S) | some (.ret, S) => match resE S.env S.t.den rs with
    | some vs => bif oneOrAll vs then avB r (mkRes vs) else false
    | none => false
  | _ => false

theorem oneOrAll_ok {vs : List AV} (h : oneOrAll vs = true) : vs.length = 1 ∨ vs.all noTup = true := by
  unfold oneOrAll at h
  split at h
  · exact .inl rfl
  · exact .inr h

theorem endsB_fin {rs : List ARes} {r : AV} {e : Exit} {S : SE} (h : endsB rs r (some (e, S)) = true) {K : AV → Heap → Nat → Prop} (hK : ∀ h' n', K r h' n') : finK rs K e S.den := by
  have key : ∀ vs, resE S.env S.t.den rs = some vs → oneOrAll vs = true → avB r (mkRes vs) = true → finS rs K S.den := fun vs h1 h2 h3 => by
    obtain ⟨c, h4, h5⟩ := resE_ok h1
    unfold finS
    have h4' : resV S.den.env S.den.h rs = some (c, vs) := h4
    rw [h4']
    refine ⟨h5, oneOrAll_ok h2, ?_⟩
    rw [← avB_eq _ _ h3]
    exact hK _ _
  have key2 : ∀ o : Option (List AV), (match o with | some vs => bif oneOrAll vs then avB r (mkRes vs) else false | none => false) = true → ∃ vs, o = some vs ∧ oneOrAll vs = true ∧ avB r (mkRes vs) = true := fun o ho => by
    cases o with
    | none => cases ho
    | some vs =>
      simp only at ho
      cases hv : oneOrAll vs with
      | false => rw [hv] at ho; cases ho
      | true => rw [hv] at ho; exact ⟨vs, rfl, hv, ho⟩
  cases e with
  | normal => obtain ⟨vs, h1, h2, h3⟩ := key2 _ h; exact key vs h1 h2 h3
  | ret => obtain ⟨vs, h1, h2, h3⟩ := key2 _ h; exact key vs h1 h2 h3
  | _ => cases h

/-- The rest of a walk, by the evaluator: results as told, whatever is left. -/
theorem rest_run {P : Program} {tab : Tab} (ht : TabOk P tab) {fs : List Nat} {H0 : Hints} (hok : HintsOk P H0) (k d : Nat) (bc : BCode) (S : SE) {rs : List ARes} (r : AV) {K : AV → Heap → Nat → Prop} (hp : bc.plain = true)
    (hrun : endsB rs r (codeE (withH fs H0 (fnE tab fs H0 k d)) k bc S) = true) (hK : ∀ h' n', K r h' n') : wpB P bc S.den (finK rs K) := by
  cases hc : codeE (withH fs H0 (fnE tab fs H0 k d)) k bc S with
  | none => rw [hc] at hrun; cases hrun
  | some x =>
    obtain ⟨e, S'⟩ := x
    rw [hc] at hrun
    exact wpB_of_flat bc hp (codeE_ok (withH_ok hok (fnE_ok ht hok d)) bc S e S' hc _ (endsB_fin hrun hK))
end Go.Ab
