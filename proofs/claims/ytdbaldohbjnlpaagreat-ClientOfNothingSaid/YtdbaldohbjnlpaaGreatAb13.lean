/- Regions that draw their order: one order is walked, floating operations first; what they read must hold wherever else they could come. -/
import Derived.Test.YtdbaldohbjnlpaaGreatAb12
set_option linter.unusedVariables false
set_option linter.unusedSimpArgs false
namespace Go.Ab

/-- A walk's order. 'ch i chk r': operation i, which is not floating; chk: the floating ones that may come behind it as well. 'alt': either of two comes first. -/
inductive Plan where
  | done
  | fl (i : Nat) (r : Plan)
  | ch (i : Nat) (chk : List Nat) (r : Plan)
  | alt (i : Nat) (c : List Nat) (r : Plan) (j : Nat) (d : List Nat) (s : Plan)

def stables (xs : List AOper) (S : St) : List Nat → Prop
  | [] => True
  | k :: r => (match xs[k]? with
    | some x => match x.dst with
      | some d => flG x S.env S.h (get S.env d)
      | none => False
    | none => False) ∧ stables xs S r

def regN (P : Program) (xs : List AOper) : Plan → St → (St → Prop) → Prop
  | .done, S, K => K S
  | .fl i r, S, K => match xs[i]? with
    | some x => floatA x S (fun S' => regN P xs r S' K)
    | none => False
  | .ch i chk r, S, K => match xs[i]? with
    | some x => operA P x S (fun S' => stables xs S' chk ∧ regN P xs r S' K)
    | none => False
  | .alt i c r j d s, S, K => (match xs[i]? with
    | some x => operA P x S (fun S' => stables xs S' c ∧ regN P xs r S' K)
    | none => False) ∧ (match xs[j]? with
    | some x => operA P x S (fun S' => stables xs S' d ∧ regN P xs s S' K)
    | none => False)

/-! The order is sound, by sight -/
def aft (xs : List AOper) (i : Nat) : List Nat := match xs[i]? with | some x => x.after | none => []
def dstOf (xs : List AOper) (i : Nat) : Option Nat := match xs[i]? with | some x => x.dst | none => none
def slotsOf (xs : List AOper) (i : Nat) : List Nat := match xs[i]? with | some x => slots x | none => []
def floats (xs : List AOper) (i : Nat) : Bool := match xs[i]? with | some x => !isChain x.op && x.dst.isSome | none => false
def readsOf (xs : List AOper) (i : Nat) : Bool := match xs[i]? with | some x => reads x.op | none => false
def ancOf (anc : List (List Nat)) (i : Nat) : List Nat := anc.getD i []

/-- Each ancestor is one by the edges; edges go back. -/
def ancOk (xs : List AOper) (anc : List (List Nat)) : Bool :=
  (List.range xs.length).all fun i => (aft xs i).all (fun k => decide (k < i)) && (ancOf anc i).all fun k => (aft xs i).contains k || (aft xs i).any fun m => (ancOf anc m).contains k

/-- Operation i can come next: what it waits for has come. E: what has come. -/
def nextOk (xs : List AOper) (E rem : List Nat) (i : Nat) : Bool := rem.contains i && (aft xs i).all (fun k => E.contains k)

/-- A floating operation behind E. -/
def flOk (xs : List AOper) (anc : List (List Nat)) (E : List Nat) (i : Nat) : Bool :=
  floats xs i && (match dstOf xs i with
    | some d => !(slotsOf xs i).contains d && E.all (fun k => !floats xs k || (match dstOf xs k with
        | some d' => d' != d && !(slotsOf xs k).contains d && (!(slotsOf xs i).contains d' || (ancOf anc i).contains k)
        | none => false))
    | none => false)
/-- Another operation behind E. -/
def chOk (xs : List AOper) (anc : List (List Nat)) (E : List Nat) (chk : List Nat) (i : Nat) : Bool :=
  E.all fun k => !floats xs k || (ancOf anc i).contains k || ((match dstOf xs k with | some d => !(slotsOf xs i).contains d && dstOf xs i != some d | none => false) &&
    (match dstOf xs i with | some d => !(slotsOf xs k).contains d | none => true) && (!readsOf xs k || chk.contains k))
/-- Nothing else that is left can come before i. -/
def aheadOk (anc : List (List Nat)) (rem : List Nat) (i : Nat) : Bool := rem.all fun k => k == i || (ancOf anc k).contains i
def aheadOk2 (anc : List (List Nat)) (rem : List Nat) (i j : Nat) : Bool := rem.all fun k => k == i || k == j || (ancOf anc k).contains i || (ancOf anc k).contains j

def planOk (xs : List AOper) (anc : List (List Nat)) : List Nat → List Nat → Plan → Bool
  | E, rem, .done => rem.isEmpty
  | E, rem, .fl i r => nextOk xs E rem i && flOk xs anc E i && planOk xs anc (i :: E) (rem.erase i) r
  | E, rem, .ch i chk r => nextOk xs E rem i && !floats xs i && chOk xs anc E chk i && aheadOk anc rem i && planOk xs anc (i :: E) (rem.erase i) r
  | E, rem, .alt i c r j d s => nextOk xs E rem i && nextOk xs E rem j && !floats xs i && !floats xs j && chOk xs anc E c i && chOk xs anc E d j && aheadOk2 anc rem i j &&
      planOk xs anc (i :: E) (rem.erase i) r && planOk xs anc (j :: E) (rem.erase j) s

def aftersOk : List Oper → List AOper → Bool
  | [], [] => true
  | o :: r, x :: r' => ((o.after.toList.filter (Region.binds .any ·)).all fun e => x.after.contains e.on) && (x.after.all fun k => o.after.toList.any fun e => Region.binds .any e && e.on == k) && aftersOk r r'
  | _, _ => false

section
variable {P : Program} {nt : Nat} {xs : List AOper} {anc : List (List Nat)} {ops : Array Oper} {Q : Exit → Act → World → Prop}

def Mask (l : List Nat) (e : Env) : Env := l.map (fun t => (t, AV.any)) ++ e
theorem mask_in {l : List Nat} {e : Env} {t : Nat} (h : t ∈ l) : get (Mask l e) t = .any := by
  unfold Mask
  induction l with
  | nil => cases h
  | cons s l ih =>
    simp only [List.map_cons, List.cons_append, get_cons]
    split
    · rfl
    · rename_i hs
      exact ih (by rcases List.mem_cons.1 h with rfl | h; exact absurd rfl hs; exact h)
theorem mask_out {l : List Nat} {e : Env} {t : Nat} (h : t ∉ l) : get (Mask l e) t = get e t := by
  unfold Mask
  induction l with
  | nil => rfl
  | cons s l ih =>
    simp only [List.map_cons, List.cons_append, get_cons]
    rw [if_neg (fun hs => h (by rw [hs]; exact List.mem_cons_self))]
    exact ih (fun hh => h (List.mem_cons_of_mem _ hh))

/-- Frames that differ at masked slots alone. -/
def Like (l : List Nat) (e e' : Env) : Prop := ∀ t, t ∉ l → get e t = get e' t

/-- An operation that names none of the masked slots. -/
theorem operA_mask {x : AOper} {e e' : Env} {h : Heap} {n : Nat} {l : List Nat} (hl : Like l e e') (hs : ∀ t ∈ slots x, t ∉ l) (hd : ∀ d, x.dst = some d → d ∉ l) {K : St → Prop} (ho : operA P x ⟨e, h, n⟩ K) :
    operA P x ⟨e', h, n⟩ (fun S => ∃ f, K ⟨f, S.h, S.n⟩ ∧ Like l f S.env ∧ (∀ t, x.dst ≠ some t → get f t = get e t)) := by
  have hslots : ∀ t ∈ slots x, get e t = get e' t := fun t ht => hl t (hs t ht)
  -- one operation, carried out
  have step : ∀ e e' : Env, Like l e e' → (∀ t ∈ slots x, get e t = get e' t) → ∀ {K : St → Prop}, stepA P x ⟨e, h, n⟩ K → stepA P x ⟨e', h, n⟩ (fun S => ∃ f, K ⟨f, S.h, S.n⟩ ∧ Like l f S.env ∧ (∀ t, x.dst ≠ some t → get f t = get e t)) := by
    intro e e' hl hslots K hst
    have hops := slots_opds hslots
    have put : ∀ v, Like l (putE e x.dst v) (putE e' x.dst v) := fun v t ht => by
      rw [putE_get, putE_get, hl t ht]
    have putg : ∀ v t, x.dst ≠ some t → get (putE e x.dst v) t = get e t := fun v t ht => by rw [putE_get, if_neg ht]
    obtain ⟨dst, op, guard, after⟩ := x
    unfold stepA at hst ⊢
    cases op with
    | call f args =>
      simp only at hst ⊢ hops put putg
      have hargs : args.map (·.ev e) = args.map (·.ev e') := List.map_congr_left hops
      rw [← hargs]
      exact ⟨hst.1, hst.2.mono fun r h' n' _ hK => ⟨_, hK, put r, putg r⟩⟩
    | callv f args =>
      simp only [opds, List.mem_cons, forall_eq_or_imp] at hst ⊢ hops put putg
      have hargs : args.map (·.ev e) = args.map (·.ev e') := List.map_congr_left hops.2
      rw [← hops.1, ← hargs]
      split
      · rename_i f' caps hf'
        rw [hf'] at hst
        exact ⟨hst.1, hst.2.1, hst.2.2.mono fun r h' n' _ hK => ⟨_, hK, put r, putg r⟩⟩
      · rename_i f' caps hf'
        rw [hf'] at hst
        exact ⟨hst.1, hst.2.1, hst.2.2.mono fun r h' n' _ hK => ⟨_, hK, put r, putg r⟩⟩
      · rename_i hf1 hf2
        split at hst
        · rename_i hf3; exact absurd hf3 (hf1 _ _)
        · rename_i hf3; exact absurd hf3 (hf2 _ _)
        · exact hst.elim
    | _ =>
      simp only at hst ⊢ hops put putg
      rw [← fl_congr h hops, ← ch_congr h n hops]
      split
      · rename_i c v hv
        rw [hv] at hst
        exact ⟨hst.1, _, hst.2, put v, putg v⟩
      · rename_i hv
        rw [hv] at hst
        simp only at hst
        split
        · rename_i c v h' n' hv'
          rw [hv'] at hst
          exact ⟨hst.1, _, hst.2, put v, putg v⟩
        · rename_i hv'
          rw [hv'] at hst
          exact hst.elim
  unfold operA at ho ⊢
  cases hg : x.guard with
  | none =>
    rw [hg] at ho
    simp only at ho ⊢
    exact step e e' hl hslots ho
  | some g =>
    obtain ⟨t, want⟩ := g
    rw [hg] at ho
    have ht := slots_guard hslots hg
    simp only at ho ⊢
    rw [← ht]
    have hln : ∀ v, Like l ((t, v) :: e) ((t, v) :: e') := fun v s hs' => by rw [get_cons, get_cons, hl s hs']
    split
    · rename_i b hb
      rw [hb] at ho
      simp only at ho
      refine ⟨fun hbw => ?_, fun hbw => ?_⟩
      · have hsame := known_same (e := e) (v := .c (.bool want)) (by rw [hb, hbw])
        have hsame' := known_same (e := e') (v := .c (.bool want)) (by rw [← ht, hb, hbw])
        have := step ((t, .c (.bool want)) :: e) ((t, .c (.bool want)) :: e') (hln _) (fun s hs' => by rw [hsame s, hsame' s]; exact hslots s hs') (ho.1 hbw)
        refine stepA_mono ?_ this
        rintro S ⟨f, h1, h2, h3⟩
        exact ⟨f, h1, h2, fun s hs' => by rw [h3 s hs', hsame s]⟩
      · refine ⟨_, ho.2 hbw, fun s hs' => by rw [putE_get, putE_get, hln _ s hs'], fun s hs' => ?_⟩
        rw [putE_get, if_neg hs']
        exact known_same (by rw [hb, hbw]) s
    · rename_i hb
      rw [hb] at ho
      simp only at ho
      exact ⟨_, ho, fun s hs' => by rw [putE_get, putE_get, hl s hs'], fun s hs' => by rw [putE_get, if_neg hs']⟩
    · rename_i h1 h2
      split at ho
      · rename_i b hb; exact absurd hb (h1 b)
      · rename_i hb; exact absurd hb h2
      · exact ho

end
end Go.Ab
