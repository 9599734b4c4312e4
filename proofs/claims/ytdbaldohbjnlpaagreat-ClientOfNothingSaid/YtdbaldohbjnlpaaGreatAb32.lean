/- The end of a law's proof: out of what a function comes to, what its row asks. -/
import Derived.Test.YtdbaldohbjnlpaaGreatAb31
import Derived.Below
import Derived.ChangeSame
set_option linter.unusedVariables false
namespace Go.Ab
open Go.RowKit Go.WideShapes Go.ChangeShapes

/-- A ghost that tells nothing. -/
def ghostE : Ghost := ⟨fun _ _ _ => False, fun _ => none, fun _ _ _ => False⟩
theorem inv_e (w : World) : Inv ghostE (fun _ => none) w :=
  ⟨fun _ _ _ h => h.elim, fun _ _ _ h => h.elim, (fun _ _ h => by cases h), fun _ _ _ _ h => absurd rfl h, fun _ _ _ _ h => absurd rfl h⟩

/-- A function that comes to true, whatever the arguments' values are. -/
theorem calls_any {P : Program} {f : Nat} {args : List AV} {vs : Array Value} {w : World} (ha : F2 (RepE ghostE) args vs.toList) (hF : Fn P f args (fun _ => none) 0 (fun r _ _ => r = .c (.bool true))) :
    Calls P f vs w fun e w' => e = .returned (.bool true) ∧ Below w.heap.size w w' :=
  (hF ghostE vs.toList w ha (inv_e w) (fun _ _ => ⟨rfl, rfl⟩)).mono fun e w' ⟨cv, r, h', n', G', e1, e2, e3, e4, e5⟩ => by
    subst e2
    have : cv = .bool true := e3
    subst this
    exact ⟨e1, ⟨e5.os, e5.tape, e5.output, e5.size, fun k hk => e5.keep k hk (fun ⟨_, _, h1, _⟩ => h1 rfl)⟩⟩

section
variable {H : Type} {enc : TypeId × Value → H} {P : Program}
/-- What a law's row asks, where all that was there stands as it stood. -/
theorem post_below {f : Func} {s : ChangeSpec} {apart fresh hands again : Bool} {W W' : World} {args : Array Value} {v : Value} {ds gs : List (DataW H)} {was pa pv : List MemPlace} (whole : DataW.Whole enc P f.params.toList s.vars apart W args.toList ds gs was)
    (told : ∀ (b : Nat) (sp : Nat → Bool) (hd : Bool), DataW.TrodAll enc P W' b sp hd f.resultTypes.toList (v.resultList f.resultTypes.size) (s.fn H (ds ++ gs)).results [])
    (again_ : ∀ sp : Nat → Bool, (∀ p ∈ was, sp p.block = true) → DataW.TrodAll enc P W' 0 sp true f.params.toList args.toList (s.fn H (ds ++ gs)).args pa)
    (vars_ : ∀ sp : Nat → Bool, (∀ p ∈ was, sp p.block = true) → DataW.TrodVars enc P W' sp s.vars (s.fn H (ds ++ gs)).vars pv) (parted : was = pa ++ pv) (low : Below W.heap.size W W')
    (fits : ∀ (j : Nat) (t : TypeId) (r : Value), f.resultTypes[j]? = some t → (v.resultList f.resultTypes.size)[j]? = some r → Value.okWide P W' .any 0 t r) : s.post enc P f apart fresh hands again W args v W' := by
  have old : ∀ p ∈ was, decide (p.block < W.heap.size) = true := fun p hp => decide_eq_true (whole.lt p hp)
  have still : W.keptBut W' (fun p => p ∈ was ∧ p ∈ pa ++ pv) := low.frame _
  have hargs := again_ (fun b => decide (b < W.heap.size)) old
  have hvars := vars_ (fun b => decide (b < W.heap.size)) old
  refine ⟨ds, gs, was, [], pa, pv, whole, told _ _ _, hargs, hvars, World.keptBut_mono (fun p hp => ⟨hp.1, .inr (List.mem_append.1 hp.2)⟩) still, fun _ => ?_⟩
  obtain ⟨_, _, _, _, _, unfrozen, once⟩ := whole
  have all : ([] : List MemPlace) ++ pa ++ pv = was := by rw [parted]; rfl
  refine ⟨fits, _, _, ([] ++ pa) ++ pv, ⟨[] ++ pa, pv, trodAll_append (again_ _ fun _ _ => rfl) (told _ _ _), vars_ _ fun _ _ => rfl, rfl, fun b off hp => ?_, fun ha => ?_⟩, fun p hp _ => ?_⟩
  · rw [all] at hp
    rw [low.frozen (old _ hp |> of_decide_eq_true)]
    exact unfrozen b off hp
  · rw [all]; exact once ha
  · rw [parted]
    simpa using hp
end
end Go.Ab
