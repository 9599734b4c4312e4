/- A law's arguments, read off the row's own reading: their abstract values, their types, their weight. -/
import Derived.Test.YtdbaldohbjnlpaaGreatAb16
import Derived.Test.YtdbaldohbjnlpaaGreatRows
import Derived.Carry
import Derived.OpenShut
import Derived.ChangeBook
set_option linter.unusedVariables false
set_option linter.unusedSimpArgs false
namespace Go.Ab
open Go.RowKit

mutual
/-- What a world holds, told without a ghost. -/
def Mem (w : World) : AC → Value → Prop
  | .int k n, v => v = .int k n
  | .bool b, v => v = .bool b
  | .str s, v => v = .string ⟨s.toArray⟩
  | .nilp, v => v = .pointer Option.none
  | .rptr cells, v => ∃ b o, v = .pointer (some ⟨b, o, Option.none⟩) ∧ MemL w cells b o
  | .sl sz es .nil, v => es = [] ∧ v = .slice Option.none 0 0
  | .sl sz es .none, v => (∃ b o cap, v = .slice (some ⟨b, o, Option.none⟩) es.length cap ∧ es.length ≤ cap ∧ MemE w sz es b o) ∨ (es = [] ∧ ∃ a cap, v = .slice a 0 cap)
  | _, _ => False
def MemL (w : World) : List AC → Nat → Nat → Prop
  | [], _, _ => True
  | x :: r, b, o => (∃ v, w.cell? ⟨b, o, Option.none⟩ = some v ∧ Mem w x v) ∧ MemL w r b (o + 1)
def MemE (w : World) (sz : Nat) : List (List AC) → Nat → Nat → Prop
  | [], _, _ => True
  | e :: r, b, o => (e.length = sz ∧ MemL w e b o) ∧ MemE w sz r b (o + sz)
end

def ghost0 (w : World) : Ghost := ⟨fun b o x => ∃ v, w.cell? ⟨b, o, Option.none⟩ = some v ∧ Mem w x v, fun _ => none, fun _ _ _ => False⟩

theorem MemL.get {w : World} : ∀ {cs : List AC} {b o : Nat}, MemL w cs b o → ∀ (j : Nat) (x : AC), cs[j]? = some x → ∃ v, w.cell? ⟨b, o + j, Option.none⟩ = some v ∧ Mem w x v
  | [], _, _, _, j, x, hx => by simp at hx
  | y :: r, b, o, h, j, x, hx => by
    rw [MemL] at h
    cases j with
    | zero => simp at hx; subst hx; exact h.1
    | succ j => simp at hx; have := MemL.get h.2 j x hx; rwa [show o + 1 + j = o + (j + 1) by omega] at this

theorem MemE.get {w : World} {sz : Nat} : ∀ {es : List (List AC)} {b o : Nat}, MemE w sz es b o → ∀ (i : Nat) (e : List AC), es[i]? = some e → e.length = sz ∧ MemL w e b (o + i * sz)
  | [], _, _, _, i, e, he => by simp at he
  | y :: r, b, o, h, i, e, he => by
    rw [MemE] at h
    cases i with
    | zero => simp at he; subst he; simpa using h.1
    | succ i => simp at he; have := MemE.get h.2 i e he; rwa [show o + sz + i * sz = o + (i + 1) * sz by rw [Nat.succ_mul]; omega] at this

theorem Mem.rep {w : World} {x : AC} {v : Value} (h : Mem w x v) : Rep (ghost0 w) x v := by
  cases x with
  | rptr cells =>
    rw [Mem] at h
    obtain ⟨b, o, h1, h2⟩ := h
    exact ⟨b, o, h1, fun j y hy => h2.get j y hy⟩
  | sl sz es c =>
    cases c with
    | nil => rw [Mem] at h; exact h
    | none =>
      rw [Mem] at h
      rcases h with ⟨b, o, cap, h1, h2, h3⟩ | h
      · exact .inl ⟨b, o, cap, h1, h2, fun i e he => ⟨(h3.get i e he).1, fun j y hy => (h3.get i e he).2.get j y hy⟩⟩
      · exact .inr h
    | _ => simp [Mem] at h
  | _ => first | exact h | (simp [Mem] at h; done) | simpa [Mem, Rep] using h

theorem inv0 (w : World) : Inv (ghost0 w) (fun _ => none) w :=
  ⟨fun _ _ _ ⟨v, h1, h2⟩ => ⟨v, h1, h2.rep⟩, fun _ _ _ h => h.elim, fun _ _ h => (by cases h), fun _ _ _ _ h => absurd rfl h, fun _ _ _ _ h => absurd rfl h⟩

theorem fresh0 (w : World) : Fresh (ghost0 w) (fun _ => none) 0 := fun _ _ => ⟨rfl, rfl⟩

theorem below_of_ext {w w' : World} {G' : Ghost} {h' : Heap} {n' : Nat} (h : Ext (ghost0 w) (fun _ => none) 0 w G' h' n' w') : Below w.heap.size w w' :=
  ⟨h.os, h.tape, h.output, h.size, fun k hk => h.keep k hk (fun ⟨_, _, h1, _⟩ => h1 rfl)⟩

/-- A function that returns true, whatever came in: as the row asks. -/
theorem calls_true {P : Program} {f : Nat} {args : List AV} {vs : Array Value} {w : World} (hF : Fn P f args (fun _ => none) 0 (fun r _ _ => r = .c (.bool true))) (ha : F2 (RepE (ghost0 w)) args vs.toList) :
    Calls P f vs w fun e w' => e = .returned (.bool true) ∧ Below w.heap.size w w' :=
  (hF (ghost0 w) vs.toList w ha (inv0 w) (fresh0 w)).mono fun e w' ⟨cv, r, h', n', G', e1, e2, e3, e4, e5⟩ => by
    subst e2
    have : cv = .bool true := e3
    subst this
    exact ⟨e1, below_of_ext e5⟩

mutual
/-- How much an abstract value weighs. -/
def acW : AC → Nat
  | .str s => s.length + 1
  | .rptr cells => acWL cells + 1
  | .sl _ es _ => acWE es + 1
  | _ => 1
def acWL : List AC → Nat
  | [] => 0
  | x :: r => acW x + acWL r
def acWE : List (List AC) → Nat
  | [] => 0
  | e :: r => acWL e + acWE r
end

theorem acWL_append : ∀ (a b : List AC), acWL (a ++ b) = acWL a + acWL b
  | [], b => by simp [acWL]
  | x :: r, b => by simp [acWL, acWL_append r b]; omega

/-- An abstract value of a type. -/
def Ty (P : Program) : Nat → TypeId → List AC → Prop
  | 0, _, _ => False
  | fuel + 1, t, cs =>
    match P.underlying t with
    | some .bool => ∃ b, cs = [.bool b]
    | some (.int k) => ∃ n, cs = [.int k n] ∧ (Lit.int k n).wf = true
    | some .string => ∃ s, cs = [.str s] ∧ s.length ≤ maxLen
    | some (.pointer e) => cs = [.nilp] ∨ ∃ cells, cs = [.rptr cells] ∧ Ty P fuel e cells
    | some (.slice e) => ∃ es c, cs = [.sl (P.cellsOf e) es c] ∧ es.length ≤ maxLen ∧ ((c = .nil ∧ es = []) ∨ c = .none) ∧ ∀ x ∈ es, Ty P fuel e x
    | some (.struct fs) => cs.length = P.cellsOf t ∧ ∀ f ∈ fs.toList, Ty P fuel f.type ((cs.drop f.offset).take (P.cellsOf f.type))
    | some (.array n e) => cs.length = P.cellsOf t ∧ ∀ i, i < n → Ty P fuel e ((cs.drop (i * P.cellsOf e)).take (P.cellsOf e))
    | _ => False

/-- The shapes that are read here. -/
def okShape (P : Program) (t : TypeId) : Bool := match P.underlying t with
  | some .bool | some (.int _) | some .string | some (.struct _) | some (.array _ _) => true
  | some (.pointer e) | some (.slice e) => decide (0 < P.cellsOf e)
  | _ => false

theorem mapM_F2 {α β : Type} {f : α → Option β} : ∀ {l : List α} {xs : List β}, l.mapM f = some xs → F2 (fun a y => f a = some y) l xs
  | [], xs, h => by simp at h; subst h; exact .nil
  | a :: l, xs, h => by
    simp only [List.mapM_cons, Option.bind_eq_bind, Option.bind_eq_some_iff, Option.pure_def, Option.some.injEq] at h
    obtain ⟨y, h1, ys, h2, rfl⟩ := h
    exact .cons h1 (mapM_F2 h2)

theorem F2.rget {α β : Type} {R : α → β → Prop} {l : List α} {m : List β} (H : F2 R l m) {i : Nat} {y : β} (h : m[i]? = some y) : ∃ x, l[i]? = some x ∧ R x y := by
  have hi : i < l.length := by rw [F2.length H]; exact (List.getElem?_eq_some_iff.1 h).1
  obtain ⟨y', h1, h2⟩ := F2.get H i l[i] (by simp)
  rw [h] at h1
  cases h1
  exact ⟨l[i], by simp, h2⟩

/-- Pieces put together. -/
theorem parts {R : AC → Value → Prop} : ∀ (sizes : List Nat) (cs : List Value) (Q : Nat → List AC → Prop) (W : Nat → Nat), cs.length = sizes.sum →
    (∀ j n, sizes[j]? = some n → ∃ ac, F2 R ac ((cs.drop (sizes.take j).sum).take n) ∧ Q j ac ∧ acWL ac ≤ W j) →
    ∃ acs, F2 R acs cs ∧ (∀ j n, sizes[j]? = some n → Q j ((acs.drop (sizes.take j).sum).take n)) ∧ acWL acs ≤ ((List.range sizes.length).map W).sum
  | [], cs, Q, W, hl, h => by
    have : cs = [] := by simpa using hl
    subst this
    exact ⟨[], .nil, fun j n hj => by simp at hj, by simp [acWL]⟩
  | n :: r, cs, Q, W, hl, h => by
    simp only [List.sum_cons] at hl
    obtain ⟨as0, h1, h2, h3⟩ := h 0 n (by simp)
    simp only [List.take_zero, List.sum_nil, List.drop_zero] at h1
    obtain ⟨acs, h4, h5, h6⟩ := parts r (cs.drop n) (fun j => Q (j + 1)) (fun j => W (j + 1)) (by simp; omega) (fun j m hj => by
      obtain ⟨ac, k1, k2, k3⟩ := h (j + 1) m (by simpa using hj)
      refine ⟨ac, ?_, k2, k3⟩
      simpa only [List.take_succ_cons, List.sum_cons, List.drop_drop] using k1)
    have hl0 : as0.length = n := by rw [F2.length h1]; simp; omega
    refine ⟨as0 ++ acs, ?_, ?_, ?_⟩
    · have := F2.append h1 h4
      rwa [List.take_append_drop] at this
    · intro j m hj
      cases j with
      | zero =>
        simp only [List.length_cons, List.getElem?_cons_zero, Option.some.injEq] at hj
        subst hj
        simp only [List.take_zero, List.sum_nil, List.drop_zero]
        rw [← hl0, List.take_left]
        exact h2
      | succ j =>
        have := h5 j m (by simpa using hj)
        simp only [List.take_succ_cons, List.sum_cons]
        rw [List.drop_append, List.drop_eq_nil_of_le (by omega), List.nil_append, hl0, Nat.add_sub_cancel_left]
        exact this
    · rw [acWL_append, List.length_cons, List.range_succ_eq_map]
      simp only [List.map_cons, List.map_map, List.sum_cons]
      have : ((List.range r.length).map (W ∘ Nat.succ)).sum = ((List.range r.length).map fun j => W (j + 1)).sum := rfl
      omega

theorem memL_of {w : World} : ∀ {ac : List AC} {vs : List Value} {b o : Nat}, F2 (Mem w) ac vs → (∀ (j : Nat) (v : Value), vs[j]? = some v → w.cell? ⟨b, o + j, Option.none⟩ = some v) → MemL w ac b o
  | _, _, b, o, .nil, _ => by simp [MemL]
  | _, _, b, o, .cons (m := m) h1 h2, h => by
    rw [MemL]
    refine ⟨⟨_, h 0 _ (by simp), h1⟩, memL_of h2 (fun j v hv => ?_)⟩
    have := h (j + 1) v (by simpa using hv)
    rwa [show o + 1 + j = o + (j + 1) by omega]

theorem memE_of {w : World} {sz : Nat} : ∀ {es : List (List AC)} {b o : Nat}, (∀ (i : Nat) (e : List AC), es[i]? = some e → e.length = sz ∧ MemL w e b (o + i * sz)) → MemE w sz es b o
  | [], b, o, _ => by simp [MemE]
  | e :: r, b, o, h => by
    rw [MemE]
    refine ⟨by simpa using h 0 e (by simp), memE_of fun i e' he => ?_⟩
    have := h (i + 1) e' (by simpa using he)
    rwa [show o + sz + i * sz = o + (i + 1) * sz by rw [Nat.succ_mul]; omega]

end Go.Ab
