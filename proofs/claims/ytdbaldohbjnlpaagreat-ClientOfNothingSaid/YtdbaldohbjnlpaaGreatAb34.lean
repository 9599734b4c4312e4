/- The common end of a law that reads arguments and returns true. -/
import Derived.Test.YtdbaldohbjnlpaaGreatAb18
import Derived.Test.YtdbaldohbjnlpaaGreatAb32
import Derived.Carry
import Derived.OpenShut
import Derived.ChangeBook
set_option linter.unusedVariables false
namespace Go.Ab
open Go.RowKit Go.WideShapes Go.ChangeShapes

/-- A type whose values are rows. -/
def rowT (P : Program) (t : TypeId) : Bool := match P.underlying t with
  | some (.struct _) | some (.array _ _) => true
  | _ => false
/-- An argument's abstract value is of its type. -/
def TyA (P : Program) (t : TypeId) (x : AV) : Prop := ∃ ac fuel, Ty P fuel t ac ∧ ((rowT P t = true ∧ x = .agg ac) ∨ (rowT P t = false ∧ ∃ c, ac = [c] ∧ x = .c c))

/-- A parameter's type is readable here. -/
def argOk (P : Program) (t : TypeId) : Bool := P.readableRec t && decide (t < P.types.size) && (P.book t).all (okShape P)

section
variable {P : Program} {H : Type} {enc : TypeId × Value → H} {W : World}

theorem readA (hl : laidOutB P = true) {t : TypeId} (ha : argOk P t = true) {v : Value} {d : DataW H} {p : List MemPlace} (h : DataW.Trod enc P W 0 (fun _ => true) true t v d p) {base : Nat} (hv : Value.okWide P W .any base t v) :
    ∃ x, TyA P t x ∧ RepE (ghost0 W) x v := by
  simp only [argOk, Bool.and_eq_true, decide_eq_true_eq, List.all_eq_true] at ha
  obtain ⟨⟨h1, h2⟩, h3⟩ := ha
  obtain ⟨fuel, hf⟩ := h
  obtain ⟨ac, h4, h5, _⟩ := readAs (T := InBook P t) (kids_book hl h1) (fun u hu => h3 u hu.2) fuel t _ d p ⟨h2, book_self t⟩ hf
  have h6 : F2 (Rep (ghost0 W)) ac v.cells.toList := F2.imp (fun _ _ => Mem.rep) h4
  cases hr : rowT P t with
  | true =>
    refine ⟨.agg ac, ⟨ac, fuel, h5, .inl ⟨hr, rfl⟩⟩, ?_⟩
    have : ∃ cs, v = .agg cs := by
      unfold rowT at hr
      unfold Value.okWide at hv
      split at hr
      · rename_i fs hu; rw [hu] at hv; exact ⟨hv.choose, hv.choose_spec.1⟩
      · rename_i n e hu; rw [hu] at hv; exact ⟨hv.choose, hv.choose_spec.1⟩
      · cases hr
    obtain ⟨cs, rfl⟩ := this
    exact ⟨cs, rfl, h6⟩
  | false =>
    have : ∃ u, v.cells = #[u] ∧ v = u := by
      unfold rowT at hr
      unfold Value.okWide at hv
      split at hv
      · rename_i fs hu; rw [hu] at hr; cases hr
      · rename_i n e hu; rw [hu] at hr; cases hr
      · cases v <;> first | exact ⟨_, rfl, rfl⟩ | skip
        unfold Cell.okWide Cell.ok at hv
        split at hv <;> first | (split at hv <;> first | contradiction | (rename_i e; cases e)) | contradiction
    obtain ⟨u, hu, rfl⟩ := this
    rw [hu] at h6
    obtain ⟨c, rfl, hc⟩ : ∃ c, ac = [c] ∧ Rep (ghost0 W) c v := by
      cases h6 with
      | cons a b => cases b; exact ⟨_, rfl, a⟩
    exact ⟨.c c, ⟨[c], fuel, h5, .inr ⟨hr, c, rfl, rfl⟩⟩, hc⟩

theorem readAll (hl : laidOutB P = true) {base : Nat} : ∀ {ts : List TypeId} {vs : List Value} {ds : List (DataW H)} {p : List MemPlace}, ts.all (argOk P) = true → DataW.TrodAll enc P W 0 (fun _ => true) true ts vs ds p →
    (∀ (j : Nat) t v, ts[j]? = some t → vs[j]? = some v → Value.okWide P W .any base t v) → ∃ xs, F2 (TyA P) ts xs ∧ F2 (RepE (ghost0 W)) xs vs
  | [], [], [], _, _, _, _ => ⟨[], .nil, .nil⟩
  | t :: ts, v :: vs, d :: ds, p, ha, h, hv => by
    rw [List.all_cons, Bool.and_eq_true] at ha
    obtain ⟨p1, q1, h1, h2, _⟩ := h
    obtain ⟨x, k1, k2⟩ := readA hl ha.1 h1 (hv 0 t v rfl rfl)
    obtain ⟨xs, k3, k4⟩ := readAll hl ha.2 h2 fun j t' v' e1 e2 => hv (j + 1) t' v' (by simpa using e1) (by simpa using e2)
    exact ⟨x :: xs, .cons k1 k3, .cons k2 k4⟩
  | [], _ :: _, _, _, _, h, _ => by simp [DataW.TrodAll] at h
  | [], [], _ :: _, _, _, h, _ => by simp [DataW.TrodAll] at h
  | _ :: _, [], _, _, _, h, _ => by simp [DataW.TrodAll] at h
  | _ :: _, _ :: _, [], _, _, h, _ => by simp [DataW.TrodAll] at h

theorem againAll (hl : laidOutB P = true) {W' : World} {sp : Nat → Bool} (low : Below W.heap.size W W') : ∀ {ts : List TypeId} {vs : List Value} {ds : List (DataW H)} {p : List MemPlace}, ts.all (argOk P) = true → DataW.TrodAll enc P W 0 (fun _ => true) true ts vs ds p →
    (∀ x ∈ p, x.block < W.heap.size) → (∀ x ∈ p, sp x.block = true) → DataW.TrodAll enc P W' 0 sp true ts vs ds p
  | [], [], [], _, _, h, _, _ => h
  | t :: ts, v :: vs, d :: ds, p, ha, h, hlt, hsp => by
    rw [List.all_cons, Bool.and_eq_true] at ha
    obtain ⟨p1, q1, h1, h2, rfl⟩ := h
    have ha1 := ha.1
    simp only [argOk, Bool.and_eq_true, decide_eq_true_eq] at ha1
    exact ⟨p1, q1, WideElems.Trod_stays hl ha1.1.1 ha1.1.2 h1 (fun x hx => low.same (hlt x (List.mem_append_left _ hx))) (fun x hx => hsp x (List.mem_append_left _ hx)),
      againAll hl low ha.2 h2 (fun x hx => hlt x (List.mem_append_right _ hx)) (fun x hx => hsp x (List.mem_append_right _ hx)), rfl⟩
  | [], _ :: _, _, _, _, h, _, _ => by simp [DataW.TrodAll] at h
  | [], [], _ :: _, _, _, h, _, _ => by simp [DataW.TrodAll] at h
  | _ :: _, [], _, _, _, h, _, _ => by simp [DataW.TrodAll] at h
  | _ :: _, _ :: _, [], _, _, h, _, _ => by simp [DataW.TrodAll] at h

/-- A law that returns true and leaves all as it was, out of its walk. -/
theorem law_end {f : Nat} {fn : Func} {s : ChangeSpec} {apart fresh hands again : Bool} {args : Array Value} {ds gs : List (DataW H)} {was : List MemPlace} {tb : TypeId} (hl : laidOutB P = true) (ha : fn.params.toList.all (argOk P) = true)
    (hlaw : ∀ xs, F2 (TyA P) fn.params.toList xs → Fn P f xs (fun _ => none) 0 (fun r _ _ => r = .c (.bool true)))
    (whole : DataW.Whole enc P fn.params.toList s.vars apart W args.toList ds gs was) {base : Nat} (hval : ∀ (j : Nat) t v, fn.params[j]? = some t → args[j]? = some v → Value.okWide P W .any base t v)
    (hvars : s.vars = []) (hb : P.underlying tb = some .bool) (hrt : fn.resultTypes = #[tb]) (hs1 : (s.fn H (ds ++ gs)).results = [.lit (.bool true)]) (hs2 : (s.fn H (ds ++ gs)).args = ds) (hs3 : (s.fn H (ds ++ gs)).vars = []) :
    Calls P f args W fun e W' => ∃ v, e = .returned v ∧ s.post enc P fn apart fresh hands again W args v W' := by
  have whole' := whole
  obtain ⟨p, q, hA, hV, hpq, hfz, hnd⟩ := whole
  rw [hvars] at hV
  obtain ⟨hgs, rfl⟩ := trodVars_none hV
  obtain ⟨xs, h1, h2⟩ := readAll hl ha hA fun j t v e1 e2 => hval j t v (by simpa using e1) (by simpa using e2)
  refine (calls_true (hlaw xs h1) h2).mono fun e W' ⟨he, low⟩ => ⟨_, he, ?_⟩
  have hlt : ∀ x ∈ p, x.block < W.heap.size := fun x hx => whole'.lt x (by rw [hpq]; exact List.mem_append_left _ hx)
  refine post_below (pa := p) (pv := []) whole' (fun b sp hd => ?_) (fun sp hsp => ?_) (fun sp hsp => ?_) hpq low ?_
  · rw [hrt, hs1]
    exact trodAll_cons_mk (shut_bool hb _) trodAll_mk0
  · rw [hs2]
    exact againAll hl low ha hA hlt fun x hx => hsp x (by rw [hpq]; exact List.mem_append_left _ hx)
  · rw [hs3, hvars]; rfl
  · exact ok_one hrt rfl (okWide_bool_mk hb _)
end
end Go.Ab
