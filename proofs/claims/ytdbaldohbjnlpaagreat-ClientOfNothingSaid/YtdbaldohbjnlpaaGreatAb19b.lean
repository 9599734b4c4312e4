/- Short-circuit groups of a region: carried out as one value, not as two ways. -/
import Derived.Test.YtdbaldohbjnlpaaGreatAb16
set_option linter.unusedVariables false
set_option linter.unusedSimpArgs false
namespace Go.Ab

/-- 'g': operations that a guard lets through, then the pick that tells their answer or the guard's. -/
inductive BItem where
  | o (x : AOper)
  | g (t : Nat) (want : Bool) (sub : List BItem) (d : Nat) (px : Opd)

abbrev B (d : Nat) (x : AOp) : BItem := .o ⟨some d, x, none, []⟩
abbrev Bn (x : AOp) : BItem := .o ⟨none, x, none, []⟩
abbrev Bg (d : Nat) (x : AOp) (t : Nat) (b : Bool) : BItem := .o ⟨some d, x, some (t, b), []⟩

def pickOp (t : Nat) (want : Bool) (px : Opd) : AOp := bif want then .pick (.t t) px (.k (.c (.bool false))) else .pick (.t t) (.k (.c (.bool true))) px

mutual
def flatI (gd : Nat × Bool) : BItem → List AOper
  | .o x => [{ x with guard := some gd }]
  | .g t want sub d px => flatL (t, want) sub ++ [⟨some d, pickOp t want px, some gd, []⟩]
def flatL (gd : Nat × Bool) : List BItem → List AOper
  | [] => []
  | i :: r => flatI gd i ++ flatL gd r
end

mutual
def dstI : BItem → List Nat
  | .o x => x.dst.toList
  | .g _ _ sub d _ => d :: dstL sub
def dstL : List BItem → List Nat
  | [] => []
  | i :: r => dstI i ++ dstL r
end

mutual
def evI (h : Heap) : BItem → Env → Option (Prop × Env)
  | .o x, e => match fl x.op e h with
    | some (c, v) => some (c, putE e x.dst v)
    | none => none
  | .g t want sub d px, e => match get e t with
    | .c (.bool b) => match evL h sub ((t, .c (.bool want)) :: e) with
      | some (c, e') => match px.ev e' with
        | .c (.bool bx) => some ((b = want → c), (d, .c (.bool (bif want then b && bx else b || bx))) :: e)
        | _ => none
      | none => none
    | _ => none
def evL (h : Heap) : List BItem → Env → Option (Prop × Env)
  | [], e => some (True, e)
  | i :: r, e => match evI h i e with
    | some (c, e') => match evL h r e' with
      | some (c', e'') => some (c ∧ c', e'')
      | none => none
    | none => none
end

def maskI : BItem → List Nat
  | .o _ => []
  | .g _ _ sub _ _ => dstL sub
def maskL : List BItem → List Nat
  | [] => []
  | i :: r => maskI i ++ maskL r
def nextZ (Z : List Nat) : BItem → List Nat
  | .o x => x.dst.toList ++ Z
  | .g _ _ sub d _ => d :: Z.filter fun z => !(dstL sub).contains z

def noneOf (l m : List Nat) : Bool := l.all fun s => !m.contains s
def opSlots (x : AOper) : List Nat := (opds x.op).flatMap Opd.slot

mutual
/-- m: masked slots; Z: slots that are passed over with the group; t0: the group's guard. -/
def okI (m Z : List Nat) (t0 : Nat) : BItem → Bool
  | .o x => !isChain x.op && x.dst.isSome && noneOf (opSlots x) m && noneOf x.dst.toList m && !x.dst.toList.contains t0
  | .g t _ sub d px => !m.contains t && Z.contains t && okL m [] t sub && !(dstL sub).contains t && noneOf px.slot (m ++ maskL sub) && !m.contains d && d != t0 && !(dstL sub).contains t0
def okL (m Z : List Nat) (t0 : Nat) : List BItem → Bool
  | [] => true
  | i :: r => okI m Z t0 i && okL (m ++ maskI i) (nextZ Z i) t0 r
end

section
variable {P : Program}

theorem regA_append : ∀ (xs ys : List AOper) (S : St) (K : St → Prop), regA P (xs ++ ys) S K = regA P xs S (fun S' => regA P ys S' K)
  | [], ys, S, K => rfl
  | x :: xs, ys, S, K => by
    simp only [List.cons_append, regA]
    congr 1
    funext S'
    exact regA_append xs ys S' K

theorem operA_mono {o : AOper} {S : St} {K K' : St → Prop} (hK : ∀ S', K S' → K' S') (h : operA P o S K) : operA P o S K' := by
  unfold operA at h ⊢
  cases hg : o.guard with
  | none => rw [hg] at h; exact stepA_mono hK h
  | some g =>
    obtain ⟨t, want⟩ := g
    rw [hg] at h
    simp only at h ⊢
    split at h
    · exact ⟨fun hb => stepA_mono hK (h.1 hb), fun hb => hK _ (h.2 hb)⟩
    · exact hK _ h
    · exact h.elim

theorem regA_mono : ∀ {xs : List AOper} {S : St} {K K' : St → Prop}, (∀ S', K S' → K' S') → regA P xs S K → regA P xs S K'
  | [], _, _, _, hK, h => hK _ h
  | _ :: _, _, _, _, hK, h => operA_mono (fun _ h' => regA_mono hK h') h

theorem stepA_fl {x : AOper} {S : St} {K : St → Prop} {c : Prop} {v : AV} (hx : isChain x.op = false) (hf : fl x.op S.env S.h = some (c, v)) (hc : c) (hK : K ⟨putE S.env x.dst v, S.h, S.n⟩) : stepA P x S K := by
  obtain ⟨dst, op, g, af⟩ := x
  unfold stepA
  simp only at hf hx hK ⊢
  cases op <;> first | (simp [isChain] at hx; done) | (simp only [hf]; exact ⟨hc, hK⟩)

theorem noneOf_mem {l m : List Nat} (h : noneOf l m = true) {s : Nat} (hs : s ∈ l) : s ∉ m := by
  have := List.all_eq_true.1 h s hs
  simpa using this

theorem evCongr {x : Opd} {e e' : Env} (h : ∀ s ∈ x.slot, get e s = get e' s) : x.ev e = x.ev e' := by
  cases x with
  | t n => exact h n (by simp [Opd.slot])
  | k v => rfl

theorem known {e : Env} {t : Nat} {v : AV} (h : get e t = v) (s : Nat) : get ((t, v) :: e) s = get e s := by
  rw [get_cons]; split
  · rename_i hs; subst hs; exact h.symm
  · rfl

/-- A group that is passed over. -/
theorem skipL {h : Heap} {n : Nat} : ∀ (sub : List BItem) (gd : Nat × Bool) (m Z : List Nat) (e' : Env), okL m Z gd.1 sub = true → (get e' gd.1 = .c (.bool (!gd.2)) ∨ get e' gd.1 = .tup []) → (∀ z ∈ Z, get e' z = .tup []) →
    regA P (flatL gd sub) ⟨e', h, n⟩ (fun S => S.h = h ∧ S.n = n ∧ ∀ s, s ∉ dstL sub → get S.env s = get e' s)
  | [], gd, m, Z, e', _, _, _ => by
    exact ⟨rfl, rfl, fun s _ => rfl⟩
  | .o x :: r, gd, m, Z, e', hok, hgd, hZ => by
    obtain ⟨t0, w0⟩ := gd
    simp only [okL, okI, Bool.and_eq_true] at hok
    obtain ⟨⟨⟨⟨⟨k1, k2⟩, k3⟩, k4⟩, k5⟩, k6⟩ := hok
    obtain ⟨d, hd⟩ := Option.isSome_iff_exists.1 k2
    have hdt : d ≠ t0 := by
      intro e; subst e; rw [hd] at k5; simp at k5
    simp only [flatL, flatI, List.singleton_append, regA]
    have go : ∀ e1 : Env, (∀ s, get e1 s = get e' s) → regA P (flatL (t0, w0) r) ⟨putE e1 x.dst (.tup []), h, n⟩ (fun S => S.h = h ∧ S.n = n ∧ ∀ s, s ∉ dstL (.o x :: r) → get S.env s = get e' s) := by
      intro e1 he1
      have hg1 : ∀ s, get (putE e1 x.dst (.tup [])) s = if s = d then .tup [] else get e' s := by
        intro s
        rw [putE_get, hd, he1]
        by_cases hs : d = s
        · subst hs; simp
        · have : ¬ s = d := fun e => hs e.symm
          simp [hs, this]
      refine regA_mono ?_ (skipL r (t0, w0) (m ++ maskI (.o x)) (nextZ Z (.o x)) _ k6 ?_ ?_)
      · intro S ⟨h1, h2, h3⟩
        refine ⟨h1, h2, fun s hs => ?_⟩
        simp only [dstL, dstI, hd, Option.toList_some, List.singleton_append, List.mem_cons, not_or] at hs
        rw [h3 s hs.2, hg1, if_neg hs.1]
      · simp only at hgd ⊢
        rw [hg1, if_neg (fun e => hdt e.symm)]
        exact hgd
      · intro z hz
        simp only [nextZ, hd, Option.toList_some, List.singleton_append, List.mem_cons] at hz
        rw [hg1]
        split
        · rfl
        · rename_i hne
          rcases hz with rfl | hz
          · exact absurd rfl hne
          · exact hZ z hz
    unfold operA
    simp only at hgd ⊢
    rcases hgd with hgd | hgd
    · rw [hgd]
      refine ⟨fun hb => (by cases w0 <;> cases hb), fun _ => go _ (known hgd)⟩
    · rw [hgd]
      exact go _ fun _ => rfl
  | .g t want sub d px :: r, gd, m, Z, e', hok, hgd, hZ => by
    obtain ⟨t0, w0⟩ := gd
    simp only [okL, okI, Bool.and_eq_true] at hok
    obtain ⟨⟨⟨⟨⟨⟨⟨⟨k1, k2⟩, k3⟩, k4⟩, k5⟩, k6⟩, k7⟩, k8⟩, k9⟩ := hok
    have ht : get e' t = .tup [] := hZ t (by simpa using k2)
    simp only [flatL, flatI, List.append_assoc, regA_append]
    refine regA_mono ?_ (skipL sub (t, want) m [] e' k3 (.inr ht) (by simp))
    intro S ⟨h1, h2, h3⟩
    simp only [List.singleton_append, regA]
    have hdt : d ≠ t0 := by simpa using k7
    have ht0 : get S.env t0 = get e' t0 := h3 t0 (by simpa using k8)
    have go : ∀ e1 : Env, (∀ s, get e1 s = get S.env s) → regA P (flatL (t0, w0) r) ⟨putE e1 (some d) (.tup []), S.h, S.n⟩ (fun S => S.h = h ∧ S.n = n ∧ ∀ s, s ∉ dstL (.g t want sub d px :: r) → get S.env s = get e' s) := by
      intro e1 he1
      rw [h1, h2]
      have hg1 : ∀ s, get (putE e1 (some d) (.tup [])) s = if s = d then .tup [] else get S.env s := by
        intro s
        rw [putE_get, he1]
        by_cases hs : d = s
        · subst hs; simp
        · have : ¬ s = d := fun e => hs e.symm
          simp [hs, this]
      refine regA_mono ?_ (skipL r (t0, w0) (m ++ maskI (.g t want sub d px)) (nextZ Z (.g t want sub d px)) _ k9 ?_ ?_)
      · intro S' ⟨g1, g2, g3⟩
        refine ⟨g1, g2, fun s hs => ?_⟩
        simp only [dstL, dstI, List.cons_append, List.mem_cons, List.mem_append, not_or] at hs
        rw [g3 s hs.2.2, hg1, if_neg hs.1, h3 s hs.2.1]
      · simp only at hgd ⊢
        rw [hg1, if_neg (fun e => hdt e.symm), ht0]
        exact hgd
      · intro z hz
        simp only [nextZ, List.mem_cons, List.mem_filter] at hz
        rw [hg1]
        split
        · rfl
        · rename_i hne
          rcases hz with rfl | ⟨hz, hz2⟩
          · exact absurd rfl hne
          · rw [h3 z (by simpa using hz2)]; exact hZ z hz
    unfold operA
    simp only at hgd ⊢
    rcases hgd with hgd | hgd
    · rw [ht0, hgd]
      refine ⟨fun hb => (by cases w0 <;> cases hb), fun _ => go _ (known (by rw [ht0, hgd]))⟩
    · rw [ht0, hgd]
      exact go _ fun _ => rfl

theorem pick_run {t : Nat} {want b bx : Bool} {px : Opd} {e : Env} {h : Heap} (ht : get e t = .c (.bool b)) (hp : b = want → px.ev e = .c (.bool bx)) :
    fl (pickOp t want px) e h = some (True, .c (.bool (bif want then b && bx else b || bx))) := by
  cases want <;> cases b <;> simp [pickOp, fl, Opd.ev, ht] <;> simp_all [Opd.ev]

/-- A group that is carried out, the guard being as it should. -/
theorem runL {h : Heap} {n : Nat} : ∀ (sub : List BItem) (gd : Nat × Bool) (m Z : List Nat) (e e' e1 : Env) (c : Prop), okL m Z gd.1 sub = true → evL h sub e = some (c, e1) → c → Like m e e' → get e' gd.1 = .c (.bool gd.2) →
    regA P (flatL gd sub) ⟨e', h, n⟩ (fun S => S.h = h ∧ S.n = n ∧ Like (m ++ maskL sub) e1 S.env ∧ ∀ s, s ∉ dstL sub → get S.env s = get e' s)
  | [], gd, m, Z, e, e', e1, c, _, hev, _, hl, _ => by
    simp only [evL, Option.some.injEq, Prod.mk.injEq] at hev
    obtain ⟨_, rfl⟩ := hev
    exact ⟨rfl, rfl, fun s hs => hl s (by simpa [maskL] using hs), fun s _ => rfl⟩
  | .o x :: r, gd, m, Z, e, e', e1, c, hok, hev, hc, hl, hgd => by
    obtain ⟨t0, w0⟩ := gd
    simp only [okL, okI, Bool.and_eq_true] at hok
    obtain ⟨⟨⟨⟨⟨k1, k2⟩, k3⟩, k4⟩, k5⟩, k6⟩ := hok
    obtain ⟨d, hd⟩ := Option.isSome_iff_exists.1 k2
    have hdt : d ≠ t0 := by
      intro e; subst e; rw [hd] at k5; simp at k5
    simp only [evL, evI] at hev
    cases hf : fl x.op e h with
    | none => rw [hf] at hev; simp at hev
    | some cv =>
      obtain ⟨cf, v⟩ := cv
      rw [hf] at hev
      simp only at hev
      cases hr : evL h r (putE e x.dst v) with
      | none => rw [hr] at hev; simp at hev
      | some ce =>
        obtain ⟨cr, e2⟩ := ce
        rw [hr] at hev
        simp only [Option.some.injEq, Prod.mk.injEq] at hev
        obtain ⟨rfl, rfl⟩ := hev
        simp only [flatL, flatI, List.singleton_append, regA]
        simp only at hgd
        unfold operA
        simp only [hgd]
        refine ⟨fun _ => ?_, fun hb => (by cases w0 <;> cases hb)⟩
        have hk := known hgd
        have hslot : ∀ s ∈ opSlots x, get e s = get ((t0, .c (.bool w0)) :: e') s := fun s hs => by rw [hk s]; exact hl s (noneOf_mem k3 hs)
        have hops : ∀ y ∈ opds x.op, y.ev e = y.ev ((t0, .c (.bool w0)) :: e') := fun y hy => evCongr fun s hs => hslot s (List.mem_flatMap.2 ⟨y, hy, hs⟩)
        have hg1 : ∀ s, get (putE ((t0, .c (.bool w0)) :: e') x.dst v) s = if s = d then v else get e' s := by
          intro s
          rw [putE_get, hd, hk]
          by_cases hs : d = s
          · subst hs; simp
          · have : ¬ s = d := fun e => hs e.symm
            simp [hs, this]
        refine stepA_fl (x := { x with guard := some (t0, w0) }) (by simpa using k1) (by simp only; rw [← fl_congr h hops]; exact hf) hc.1 ?_
        refine regA_mono ?_ (runL r (t0, w0) (m ++ maskI (.o x)) (nextZ Z (.o x)) (putE e x.dst v) _ e2 cr k6 hr hc.2 ?_ ?_)
        · intro S ⟨h1, h2, h3, h4⟩
          refine ⟨h1, h2, fun s hs => h3 s (by simpa [maskL, maskI] using hs), fun s hs => ?_⟩
          simp only [dstL, dstI, hd, Option.toList_some, List.singleton_append, List.mem_cons, not_or] at hs
          rw [h4 s hs.2, hg1, if_neg hs.1]
        · intro s hs
          simp only [maskI, List.append_nil] at hs
          rw [hg1, putE_get, hd]
          by_cases hsd : s = d
          · subst hsd; simp
          · have : ¬ d = s := fun e => hsd e.symm
            simp [hsd, this, hl s hs]
        · simp only
          rw [hg1, if_neg (fun e => hdt e.symm)]
          exact hgd
  | .g t want sub d px :: r, gd, m, Z, e, e', e1, c, hok, hev, hc, hl, hgd => by
    obtain ⟨t0, w0⟩ := gd
    simp only [okL, okI, Bool.and_eq_true] at hok
    obtain ⟨⟨⟨⟨⟨⟨⟨⟨k1, k2⟩, k3⟩, k4⟩, k5⟩, k6⟩, k7⟩, k8⟩, k9⟩ := hok
    have hdt : d ≠ t0 := by simpa using k7
    have htm : t ∉ m := by simpa using k1
    simp only [evL, evI] at hev
    split at hev
    · rename_i ci e2 hi
      split at hi
      · rename_i b hb
        split at hi
        · rename_i cs e3 hsub
          split at hi
          · rename_i bx hbx
            simp only [Option.some.injEq, Prod.mk.injEq] at hi
            obtain ⟨rfl, rfl⟩ := hi
            split at hev
            · rename_i cr e4 hr
              simp only [Option.some.injEq, Prod.mk.injEq] at hev
              obtain ⟨rfl, rfl⟩ := hev
              have hb' : get e' t = .c (.bool b) := by rw [← hl t htm]; exact hb
              simp only [flatL, flatI, List.append_assoc, regA_append]
              simp only at hgd
              -- behind the group's own operations
              have tail : ∀ (S : St), S.h = h → S.n = n → (b = want → px.ev S.env = .c (.bool bx)) → (∀ s, s ∉ dstL sub → get S.env s = get e' s) →
                  regA P ([⟨some d, pickOp t want px, some (t0, w0), []⟩] ++ flatL (t0, w0) r) S (fun S => S.h = h ∧ S.n = n ∧ Like (m ++ maskL (.g t want sub d px :: r)) e4 S.env ∧ ∀ s, s ∉ dstL (.g t want sub d px :: r) → get S.env s = get e' s) := by
                intro S h1 h2 h3 h4
                simp only [List.singleton_append, regA]
                have hg0 : get S.env t0 = .c (.bool w0) := by rw [h4 t0 (by simpa using k8)]; exact hgd
                have hk := known hg0
                unfold operA
                simp only [hg0]
                refine ⟨fun _ => ?_, fun hb => (by cases w0 <;> cases hb)⟩
                have hg1 : ∀ v s, get (putE ((t0, .c (.bool w0)) :: S.env) (some d) v) s = if s = d then v else get S.env s := by
                  intro v s
                  rw [putE_get, hk]
                  by_cases hs : d = s
                  · subst hs; simp
                  · have : ¬ s = d := fun e => hs e.symm
                    simp [hs, this]
                refine stepA_fl (x := ⟨some d, pickOp t want px, some (t0, w0), []⟩) (by cases want <;> rfl)
                  (pick_run (b := b) (bx := bx) (by simp only; rw [hk, h4 t (by simpa using k4)]; exact hb') (fun hbw => by
                    rw [← h3 hbw]; exact evCongr fun s _ => hk s)) trivial ?_
                simp only
                rw [h1, h2]
                refine regA_mono ?_ (runL r (t0, w0) (m ++ maskI (.g t want sub d px)) (nextZ Z (.g t want sub d px)) _ _ e4 cr k9 hr hc.2 ?_ ?_)
                · intro S' ⟨g1, g2, g3, g4⟩
                  refine ⟨g1, g2, fun s hs => g3 s (by simpa [maskL, List.append_assoc] using hs), fun s hs => ?_⟩
                  simp only [dstL, dstI, List.cons_append, List.mem_cons, List.mem_append, not_or] at hs
                  rw [g4 s hs.2.2, hg1, if_neg hs.1, h4 s hs.2.1]
                · intro s hs
                  simp only [maskI, List.mem_append, not_or] at hs
                  rw [hg1, get_cons]
                  by_cases hsd : s = d
                  · subst hsd; simp
                  · have : ¬ d = s := fun e => hsd e.symm
                    rw [if_neg this, if_neg hsd, hl s hs.1, h4 s hs.2]
                · simp only
                  rw [hg1, if_neg (fun e => hdt e.symm)]
                  exact hg0
              by_cases hbw : b = want
              · subst hbw
                refine regA_mono ?_ (runL sub (t, b) m [] ((t, .c (.bool b)) :: e) e' e3 cs k3 hsub (hc.1 rfl) (fun s hs => by rw [known hb]; exact hl s hs) hb')
                intro S ⟨h1, h2, h3, h4⟩
                exact tail S h1 h2 (fun _ => by rw [← hbx]; exact evCongr fun s hs => (h3 s (noneOf_mem k5 hs)).symm) h4
              · have hb2 : get e' t = .c (.bool (!want)) := by rw [hb']; cases b <;> cases want <;> simp_all
                refine regA_mono ?_ (skipL sub (t, want) m [] e' k3 (.inl hb2) (by simp))
                intro S ⟨h1, h2, h3⟩
                exact tail S h1 h2 (fun h => absurd h hbw) h3
            · cases hev
          · cases hi
        · cases hi
      · cases hi
    · cases hev

/-! A region's operations with their groups -/
def flatT : List BItem → List AOper
  | [] => []
  | .o x :: r => x :: flatT r
  | .g t want sub d px :: r => flatL (t, want) sub ++ ⟨some d, pickOp t want px, none, []⟩ :: flatT r

def okT (keep : List Nat) (m : List Nat) : List BItem → Bool
  | [] => noneOf keep m
  | .o x :: r => noneOf (slots x) m && noneOf x.dst.toList m && okT keep m r
  | .g t _ sub d px :: r => !m.contains t && okL m [] t sub && !(dstL sub).contains t && noneOf px.slot (m ++ maskL sub) && !m.contains d && okT keep (m ++ dstL sub) r

def regB (P : Program) : List BItem → St → (St → Prop) → Prop
  | [], S, K => K S
  | .o x :: r, S, K => operA P x S (fun S' => regB P r S' K)
  | .g t want sub d px :: r, S, K => match evI S.h (.g t want sub d px) S.env with
    | some (c, e) => c ∧ regB P r ⟨e, S.h, S.n⟩ K
    | none => False

theorem regB_mono : ∀ {xs : List BItem} {S : St} {K K' : St → Prop}, (∀ S', K S' → K' S') → regB P xs S K → regB P xs S K'
  | [], _, _, _, hK, h => hK _ h
  | .o _ :: _, _, _, _, hK, h => operA_mono (fun _ h' => regB_mono hK h') h
  | .g t want sub d px :: r, S, K, K', hK, h => by
    unfold regB at h ⊢
    split at h
    · exact ⟨h.1, regB_mono hK h.2⟩
    · exact h.elim

theorem keep_like {keep m : List Nat} {e e' : Env} (hk : noneOf keep m = true) (hl : Like m e e') : keepE keep e = keepE keep e' := by
  unfold keepE
  exact List.map_congr_left fun t ht => by rw [hl t (noneOf_mem hk ht)]

theorem regB_sound {keep : List Nat} {Q : St → Prop} : ∀ (xs : List BItem) (m : List Nat) (e e' : Env) (h : Heap) (n : Nat), okT keep m xs = true → Like m e e' → regB P xs ⟨e, h, n⟩ (fun S => Q ⟨keepE keep S.env, S.h, S.n⟩) →
    regA P (flatT xs) ⟨e', h, n⟩ (fun S => Q ⟨keepE keep S.env, S.h, S.n⟩)
  | [], m, e, e', h, n, hok, hl, hs => by
    simp only [flatT, regA, regB] at hs ⊢
    rwa [← keep_like hok hl]
  | .o x :: r, m, e, e', h, n, hok, hl, hs => by
    simp only [okT, Bool.and_eq_true] at hok
    obtain ⟨⟨k1, k2⟩, k3⟩ := hok
    simp only [flatT, regA]
    refine operA_mono ?_ (operA_mask (l := m) hl (fun t ht => noneOf_mem k1 ht) (fun d hd => noneOf_mem k2 (by simp [hd])) hs)
    rintro S ⟨f, h1, h2, _⟩
    exact regB_sound r m f S.env S.h S.n k3 h2 h1
  | .g t want sub d px :: r, m, e, e', h, n, hok, hl, hs => by
    simp only [okT, Bool.and_eq_true] at hok
    obtain ⟨⟨⟨⟨⟨k1, k2⟩, k3⟩, k4⟩, k5⟩, k6⟩ := hok
    have htm : t ∉ m := by simpa using k1
    unfold regB at hs
    simp only [evI] at hs
    split at hs
    · rename_i c e2 hi
      split at hi
      · rename_i b hb
        split at hi
        · rename_i cs e3 hsub
          split at hi
          · rename_i bx hbx
            simp only [Option.some.injEq, Prod.mk.injEq] at hi
            obtain ⟨rfl, rfl⟩ := hi
            have hb' : get e' t = .c (.bool b) := by rw [← hl t htm]; exact hb
            simp only [flatT, regA_append]
            have tail : ∀ (S : St), S.h = h → S.n = n → (b = want → px.ev S.env = .c (.bool bx)) → (∀ s, s ∉ dstL sub → get S.env s = get e' s) →
                regA P (⟨some d, pickOp t want px, none, []⟩ :: flatT r) S (fun S => Q ⟨keepE keep S.env, S.h, S.n⟩) := by
              intro S h1 h2 h3 h4
              simp only [regA, operA]
              refine stepA_fl (x := ⟨some d, pickOp t want px, none, []⟩) (by cases want <;> rfl)
                (pick_run (b := b) (bx := bx) (by rw [h4 t (by simpa using k3)]; exact hb') h3) trivial ?_
              simp only
              rw [h1, h2]
              refine regB_sound r (m ++ dstL sub) _ _ h n k6 ?_ hs.2
              intro s hs'
              simp only [List.mem_append, not_or] at hs'
              rw [putE_get, get_cons]
              by_cases hsd : d = s
              · subst hsd; simp
              · rw [if_neg hsd, if_neg (by simpa using hsd), hl s hs'.1, h4 s hs'.2]
            by_cases hbw : b = want
            · subst hbw
              refine regA_mono ?_ (runL sub (t, b) m [] ((t, .c (.bool b)) :: e) e' e3 cs k2 hsub (hs.1 rfl) (fun s hs => by rw [known hb]; exact hl s hs) hb')
              intro S ⟨h1, h2, h3, h4⟩
              exact tail S h1 h2 (fun _ => by rw [← hbx]; exact evCongr fun s hs => (h3 s (noneOf_mem k4 hs)).symm) h4
            · have hb2 : get e' t = .c (.bool (!want)) := by rw [hb']; cases b <;> cases want <;> simp_all
              refine regA_mono ?_ (skipL sub (t, want) m [] e' k2 (.inl hb2) (by simp))
              intro S ⟨h1, h2, h3⟩
              exact tail S h1 h2 (fun h => absurd h hbw) h3
          · cases hi
        · cases hi
      · cases hi
    · exact hs.elim

inductive BCode where
  | skip
  | seq (a b : BCode)
  | reg (xs : List BItem) (keep : List Nat)
  | regd (xs : List AOper) (p : Plan) (keep : List Nat)
  | cond (c : Opd) (a b : BCode)
  | block (id : Nat) (c : BCode)
  | loop (c : BCode)
  | exit (id : Nat)
  | ret

def BCode.flat : BCode → ACode
  | .skip => .skip
  | .seq a b => .seq a.flat b.flat
  | .reg xs keep => .reg (flatT xs) keep
  | .regd xs p keep => .regd xs p keep
  | .cond c a b => .cond c a.flat b.flat
  | .block id c => .block id c.flat
  | .loop c => .loop c.flat
  | .exit id => .exit id
  | .ret => .ret

def BCode.ok : BCode → Bool
  | .seq a b | .cond _ a b => a.ok && b.ok
  | .reg xs keep => okT keep [] xs
  | .block _ c | .loop c => c.ok
  | _ => true

def wpB (P : Program) : BCode → St → (Exit → St → Prop) → Prop
  | .skip, S, Q => Q .normal S
  | .seq a b, S, Q => wpB P a S (fun e S' => match e with | .normal => wpB P b S' Q | e => Q e S')
  | .reg xs keep, S, Q => regB P xs S (fun S' => Q .normal ⟨keepE keep S'.env, S'.h, S'.n⟩)
  | .regd xs p keep, S, Q => regN P xs p S (fun S' => Q .normal ⟨keepE keep S'.env, S'.h, S'.n⟩)
  | .cond c a b, S, Q => match c.ev S.env with
    | .c (.bool t) => (t = true → wpB P a S Q) ∧ (t = false → wpB P b S Q)
    | _ => False
  | .block id c, S, Q => wpB P c S (fun e S' => match e with | .exit id' => if id' = id then Q .normal S' else Q (.exit id') S' | e => Q e S')
  | .loop c, S, Q => ∃ (I : St → Prop) (m : St → Nat), I S ∧ ∀ S', I S' → wpB P c S' (fun e S'' => match e with | .normal => I S'' ∧ m S'' < m S' | e => Q e S'')
  | .exit id, S, Q => Q (.exit id) S
  | .ret, S, Q => Q .ret S

theorem floatA_mono {x : AOper} {S : St} {K K' : St → Prop} (hK : ∀ S', K S' → K' S') (h : floatA x S K) : floatA x S K' := by
  unfold floatA at h ⊢
  cases hg : x.guard with
  | none =>
    rw [hg] at h
    simp only at h ⊢
    split at h
    · exact ⟨h.1, hK _ h.2⟩
    · exact h.elim
  | some g =>
    obtain ⟨t, want⟩ := g
    rw [hg] at h
    simp only at h ⊢
    split at h
    · refine ⟨fun hb => ?_, fun hb => hK _ (h.2 hb)⟩
      have := h.1 hb
      split at this
      · exact ⟨this.1, hK _ this.2⟩
      · exact this.elim
    · exact hK _ h
    · exact h.elim

theorem regN_mono {xs : List AOper} : ∀ {p : Plan} {S : St} {K K' : St → Prop}, (∀ S', K S' → K' S') → regN P xs p S K → regN P xs p S K'
  | .done, _, _, _, hK, h => hK _ h
  | .fl i r, S, K, K', hK, h => by
    simp only [regN] at h ⊢
    split at h
    · exact floatA_mono (fun _ h' => regN_mono hK h') h
    · exact h.elim
  | .ch i chk r, S, K, K', hK, h => by
    simp only [regN] at h ⊢
    split at h
    · exact operA_mono (fun _ h' => ⟨h'.1, regN_mono hK h'.2⟩) h
    · exact h.elim
  | .alt i c r j d s, S, K, K', hK, h => by
    simp only [regN] at h ⊢
    refine ⟨?_, ?_⟩
    · have h1 := h.1
      split at h1
      · exact operA_mono (fun _ h' => ⟨h'.1, regN_mono hK h'.2⟩) h1
      · exact h1.elim
    · have h1 := h.2
      split at h1
      · exact operA_mono (fun _ h' => ⟨h'.1, regN_mono hK h'.2⟩) h1
      · exact h1.elim

theorem wpB_mono : ∀ (bc : BCode) {S : St} {Q Q' : Exit → St → Prop}, (∀ e S', Q e S' → Q' e S') → wpB P bc S Q → wpB P bc S Q'
  | .skip, S, Q, Q', hQ, h => hQ _ _ h
  | .seq a b, S, Q, Q', hQ, h => by
    refine wpB_mono a (fun e S' h' => ?_) h
    cases e with
    | normal => exact wpB_mono b hQ h'
    | _ => exact hQ _ _ h'
  | .reg xs keep, S, Q, Q', hQ, h => regB_mono (fun S' h' => hQ _ _ h') h
  | .regd xs p keep, S, Q, Q', hQ, h => regN_mono (fun S' h' => hQ _ _ h') h
  | .cond c a b, S, Q, Q', hQ, h => by
    simp only [wpB] at h ⊢
    split at h
    · exact ⟨fun ht => wpB_mono a hQ (h.1 ht), fun ht => wpB_mono b hQ (h.2 ht)⟩
    · exact h.elim
  | .block id c, S, Q, Q', hQ, h => by
    refine wpB_mono c (fun e S' h' => ?_) h
    cases e with
    | exit id' =>
      simp only at h' ⊢
      split at h'
      · rw [if_pos (by assumption)]; exact hQ _ _ h'
      · rw [if_neg (by assumption)]; exact hQ _ _ h'
    | _ => exact hQ _ _ h'
  | .loop c, S, Q, Q', hQ, h => by
    obtain ⟨I, m, h1, h2⟩ := h
    refine ⟨I, m, h1, fun S' hS => wpB_mono c (fun e S'' h' => ?_) (h2 S' hS)⟩
    cases e with
    | normal => exact h'
    | _ => exact hQ _ _ h'
  | .exit id, S, Q, Q', hQ, h => hQ _ _ h
  | .ret, S, Q, Q', hQ, h => hQ _ _ h

theorem wpB_sound : ∀ (bc : BCode) {S : St} {Q : Exit → St → Prop}, bc.ok = true → wpB P bc S Q → wpA P bc.flat S Q
  | .skip, S, Q, _, h => h
  | .seq a b, S, Q, hok, h => by
    simp only [BCode.ok, Bool.and_eq_true] at hok
    refine wpB_sound a hok.1 (wpB_mono a (fun e S' h' => ?_) h)
    cases e with
    | normal => exact wpB_sound b hok.2 h'
    | _ => exact h'
  | .reg xs keep, S, Q, hok, h => regB_sound (Q := Q .normal) xs [] S.env S.env S.h S.n hok (fun _ _ => rfl) h
  | .regd xs p keep, S, Q, _, h => h
  | .cond c a b, S, Q, hok, h => by
    simp only [BCode.ok, Bool.and_eq_true] at hok
    simp only [wpB, wpA, BCode.flat] at h ⊢
    split at h
    · rename_i t ht
      rw [ht]
      exact ⟨fun ht => wpB_sound a hok.1 (h.1 ht), fun ht => wpB_sound b hok.2 (h.2 ht)⟩
    · exact h.elim
  | .block id c, S, Q, hok, h => wpB_sound c hok h
  | .loop c, S, Q, hok, h => by
    obtain ⟨I, m, h1, h2⟩ := h
    exact ⟨I, m, h1, fun S' hS => wpB_sound c hok (h2 S' hS)⟩
  | .exit id, S, Q, _, h => h
  | .ret, S, Q, _, h => h

end
end Go.Ab
