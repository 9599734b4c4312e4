/- What an operation's outcome hangs on: the slots that it names. -/
import Derived.Test.YtdbaldohbjnlpaaGreatAb11
set_option linter.unusedVariables false
set_option linter.unusedSimpArgs false
namespace Go.Ab

def optO : Option Opd → List Opd
  | none => []
  | some x => [x]
def opds : AOp → List Opd
  | .mv x | .asg x | .sconv x | .not x | .neg x | .inv x | .conv _ x | .nilck x | .fadr _ x | .fld _ _ _ x | .aslice _ _ x | .len x | .slen x | .mlen x | .alen _ x | .extract _ x | .load _ _ x | .boxR x | .sbytes x | .bytess x | .box x | .frz _ x | .mkif _ x | .tas _ x | .mclone x => [x]
  | .pick c a b => [c, a, b]
  | .bin _ x y | .iadr _ x y | .iarr _ _ x y | .idx _ _ _ x y | .sidx x y | .app _ _ x y | .store _ x y => [x, y]
  | .build _ ps | .slR _ _ _ ps | .slM _ _ _ ps => ps.map (·.2.2)
  | .sslice x lo hi => x :: (optO lo ++ optO hi)
  | .aslc _ _ x lo hi => x :: (optO lo ++ optO hi)
  | .slice _ x lo hi mx => x :: (optO lo ++ optO hi ++ optO mx)
  | .alloc _ | .slE _ | .bad => []
  | .call _ args => args
  | .aeq _ _ x y | .mm _ x y | .lookup _ _ _ x y | .mdel _ x y | .mentry _ _ x y | .appM _ _ x y | .mksl _ _ _ _ x y | .cpy _ x y => [x, y]
  | .mupd _ x y z | .estore x y z => [x, y, z]
  | .mkfn _ caps => caps
  | .mkbfn _ caps => caps
  | .mkmap => []
  | .callv x args => x :: args

def Opd.slot : Opd → List Nat
  | .t n => [n]
  | .k _ => []
def slots (x : AOper) : List Nat := (opds x.op).flatMap Opd.slot ++ (match x.guard with | some (t, _) => [t] | none => [])

theorem fills_congr {e e' : Env} : ∀ (ps : List (Nat × Nat × Opd)) (cs : List AC), (∀ y ∈ ps.map (·.2.2), y.ev e = y.ev e') → fills e cs ps = fills e' cs ps
  | [], _, _ => rfl
  | (i, sz, x) :: r, cs, h => by
    simp only [fills]
    rw [h x (by simp), fills_congr r _ (fun y hy => h y (by simp at hy ⊢; exact .inr hy))]
theorem fillsOk_congr {e e' : Env} {n : Nat} : ∀ (ps : List (Nat × Nat × Opd)), (∀ y ∈ ps.map (·.2.2), y.ev e = y.ev e') → fillsOk e n ps = fillsOk e' n ps
  | [], _ => rfl
  | (i, sz, x) :: r, h => by
    simp only [fillsOk]
    rw [h x (by simp), fillsOk_congr r (fun y hy => h y (by simp at hy ⊢; exact .inr hy))]
theorem bound_congr {e e' : Env} {d : Nat} {x : Option Opd} (h : ∀ y ∈ optO x, y.ev e = y.ev e') : bound e d x = bound e' d x := by
  cases x with
  | none => rfl
  | some x => simp only [bound]; rw [h x (by simp [optO])]

theorem fl_congr {op : AOp} {e e' : Env} (hh : Heap) (h : ∀ y ∈ opds op, y.ev e = y.ev e') : fl op e hh = fl op e' hh := by
  cases op <;> simp only [opds, List.mem_cons, List.not_mem_nil, or_false, forall_eq_or_imp, forall_eq] at h <;> simp only [fl]
  case build z ps => rw [fills_congr ps _ h, fillsOk_congr ps h]
  case mkfn f caps => rw [List.map_congr_left h]
  case mkbfn f caps => rw [List.map_congr_left h]
  case slR sz n z ps => rw [fills_congr ps _ h, fillsOk_congr ps h]
  case sslice x lo hi =>
    obtain ⟨h1, h2⟩ := h
    have h3 : ∀ d, bound e d lo = bound e' d lo := fun d => bound_congr fun y hy => h2 y (List.mem_append.2 (.inl hy))
    have h4 : ∀ d, bound e d hi = bound e' d hi := fun d => bound_congr fun y hy => h2 y (List.mem_append.2 (.inr hy))
    simp only [h1, h3, h4]
  case aslc sz n x lo hi =>
    obtain ⟨h1, h2⟩ := h
    have h3 : ∀ d, bound e d lo = bound e' d lo := fun d => bound_congr fun y hy => h2 y (List.mem_append.2 (.inl hy))
    have h4 : ∀ d, bound e d hi = bound e' d hi := fun d => bound_congr fun y hy => h2 y (List.mem_append.2 (.inr hy))
    simp only [h1, h3, h4]
  case slice sz x lo hi mx =>
    obtain ⟨h1, h2⟩ := h
    have h3 : ∀ d, bound e d lo = bound e' d lo := fun d => bound_congr fun y hy => h2 y (List.mem_append.2 (.inl (List.mem_append.2 (.inl hy))))
    have h4 : ∀ d, bound e d hi = bound e' d hi := fun d => bound_congr fun y hy => h2 y (List.mem_append.2 (.inl (List.mem_append.2 (.inr hy))))
    have h5 : ∀ d, bound e d mx = bound e' d mx := fun d => bound_congr fun y hy => h2 y (List.mem_append.2 (.inr hy))
    simp only [h1, h3, h4, h5]
  all_goals (first | rfl | rw [h] | (obtain ⟨h1, h2⟩ := h; rw [h1, h2]) | (obtain ⟨h1, h2, h3⟩ := h; rw [h1, h2, h3]))

theorem ch_congr {op : AOp} {e e' : Env} (hh : Heap) (n : Nat) (h : ∀ y ∈ opds op, y.ev e = y.ev e') : ch op e hh n = ch op e' hh n := by
  cases op <;> simp only [opds, List.mem_cons, List.not_mem_nil, or_false, forall_eq_or_imp, forall_eq] at h <;> simp only [ch]
  case slM sz n z ps => rw [fills_congr ps _ h, fillsOk_congr ps h]
  all_goals (first | rfl | rw [h] | (obtain ⟨h1, h2⟩ := h; rw [h1, h2]) | (obtain ⟨h1, h2, h3⟩ := h; rw [h1, h2, h3]))

theorem fl_heap {op : AOp} (hr : reads op = false) (e : Env) (h h' : Heap) : fl op e h = fl op e h' := by
  cases op <;> simp only [reads] at hr <;> first | rfl | cases hr

theorem slot_ev {x : Opd} {e e' : Env} (h : ∀ t ∈ x.slot, get e t = get e' t) : x.ev e = x.ev e' := by
  cases x with
  | t n => exact h n (by simp [Opd.slot])
  | k v => rfl
theorem slots_opds {x : AOper} {e e' : Env} (h : ∀ t ∈ slots x, get e t = get e' t) : ∀ y ∈ opds x.op, y.ev e = y.ev e' := fun y hy =>
  slot_ev fun t ht => h t (List.mem_append.2 (.inl (List.mem_flatMap.2 ⟨y, hy, ht⟩)))
theorem slots_guard {x : AOper} {e e' : Env} (h : ∀ t ∈ slots x, get e t = get e' t) {t : Nat} {want : Bool} (hg : x.guard = some (t, want)) : get e t = get e' t :=
  h t (List.mem_append.2 (.inr (by rw [hg]; simp)))

/-- A floating operation has this outcome. -/
def flG (x : AOper) (e : Env) (h : Heap) (v : AV) : Prop :=
  match x.guard with
  | none => match fl x.op e h with
    | some (c, u) => c ∧ u = v
    | none => False
  | some (t, want) => match get e t with
    | .c (.bool b) => (b = want → match fl x.op e h with
        | some (c, u) => c ∧ u = v
        | none => False) ∧ (b = !want → v = .tup [])
    | .tup [] => v = .tup []
    | _ => False

theorem flG_congr {x : AOper} {e e' : Env} {h h' : Heap} (hs : ∀ t ∈ slots x, get e t = get e' t) (hh : h = h' ∨ reads x.op = false) {v : AV} : flG x e h v ↔ flG x e' h' v := by
  have h1 : fl x.op e h = fl x.op e' h' := by
    rw [fl_congr h (slots_opds hs)]
    rcases hh with rfl | hr
    · rfl
    · exact fl_heap hr _ _ _
  unfold flG
  rw [h1]
  cases hg : x.guard with
  | none => exact Iff.rfl
  | some g =>
    obtain ⟨t, want⟩ := g
    simp only
    rw [slots_guard hs hg]

/-- A floating operation is carried out. -/
def floatA (x : AOper) (S : St) (K : St → Prop) : Prop :=
  match x.guard with
  | none => match fl x.op S.env S.h with
    | some (c, v) => c ∧ K ⟨putE S.env x.dst v, S.h, S.n⟩
    | none => False
  | some (t, want) => match get S.env t with
    | .c (.bool b) => (b = want → match fl x.op ((t, .c (.bool want)) :: S.env) S.h with
        | some (c, v) => c ∧ K ⟨putE ((t, .c (.bool want)) :: S.env) x.dst v, S.h, S.n⟩
        | none => False) ∧ (b = !want → K ⟨putE ((t, .c (.bool !want)) :: S.env) x.dst (.tup []), S.h, S.n⟩)
    | .tup [] => K ⟨putE S.env x.dst (.tup []), S.h, S.n⟩
    | _ => False

/-- Two frames say the same. -/
def SameE (e e' : Env) : Prop := ∀ t, get e t = get e' t

theorem get_cons (s : Nat) (v : AV) (e : Env) (t : Nat) : get ((s, v) :: e) t = if s = t then v else get e t := by
  simp only [get]
  by_cases h : s = t
  · subst h; simp
  · have : (s == t) = false := by simpa using h
    rw [this, if_neg h]; rfl

theorem known_same {e : Env} {t : Nat} {v : AV} (h : get e t = v) : SameE ((t, v) :: e) e := fun s => by
  rw [get_cons]
  split
  · rename_i hs; subst hs; exact h.symm
  · rfl

theorem putE_get {e : Env} {d : Option Nat} {v : AV} (t : Nat) : get (putE e d v) t = if d = some t then v else get e t := by
  cases d with
  | none => simp [putE]
  | some d =>
    simp only [putE, get_cons, Option.some.injEq]

theorem putE_same {e e' : Env} (h : SameE e e') (d : Option Nat) (v : AV) : SameE (putE e d v) (putE e' d v) := fun t => by
  rw [putE_get, putE_get, h t]

/-- What a floating operation's being carried out gives. -/
theorem floatA_out {x : AOper} {S : St} {K : St → Prop} (hs : floatA x S K) : ∃ v e, flG x S.env S.h v ∧ K ⟨e, S.h, S.n⟩ ∧ SameE e (putE S.env x.dst v) := by
  unfold floatA at hs
  cases hg : x.guard with
  | none =>
    rw [hg] at hs
    simp only at hs
    cases hf : fl x.op S.env S.h with
    | none => rw [hf] at hs; exact hs.elim
    | some r =>
      obtain ⟨c, v⟩ := r
      rw [hf] at hs
      exact ⟨v, _, by unfold flG; rw [hg]; simp only; rw [hf]; exact ⟨hs.1, rfl⟩, hs.2, fun t => rfl⟩
  | some g =>
    obtain ⟨t, want⟩ := g
    rw [hg] at hs
    simp only at hs
    split at hs
    · rename_i b hb
      by_cases hbw : b = want
      · subst hbw
        have h1 := hs.1 rfl
        have hsame := known_same hb
        rw [fl_congr (e' := S.env) S.h (fun y _ => slot_ev fun t _ => hsame t)] at h1
        cases hf : fl x.op S.env S.h with
        | none => rw [hf] at h1; exact h1.elim
        | some r =>
          obtain ⟨c, v⟩ := r
          rw [hf] at h1
          refine ⟨v, _, ?_, h1.2, putE_same hsame _ _⟩
          unfold flG
          rw [hg]
          simp only
          rw [hb]
          simp only
          rw [hf]
          exact ⟨fun _ => ⟨h1.1, rfl⟩, fun h => by cases b <;> simp at h⟩
      · have hb' : b = !want := by cases b <;> cases want <;> simp_all
        refine ⟨.tup [], _, ?_, hs.2 hb', putE_same (known_same (by rw [hb, hb'])) _ _⟩
        unfold flG
        rw [hg]
        simp only
        rw [hb]
        simp [hbw]
    · rename_i hb
      refine ⟨.tup [], _, ?_, hs, fun t => rfl⟩
      unfold flG
      rw [hg]
      simp only
      rw [hb]
      trivial
    · exact hs.elim

end Go.Ab
