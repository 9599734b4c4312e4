/- What a call leaves behind is forgotten, where nothing that stays names it. -/
import Derived.Test.YtdbaldohbjnlpaaGreatAb19
set_option linter.unusedVariables false
set_option linter.unusedSimpArgs false
namespace Go.Ab

def cpBelow (n : Nat) : Cp → Bool
  | .tok id => Nat.blt id n
  | _ => true
mutual
/-- Every object that a value names has a number below n. -/
def below (n : Nat) : AC → Bool
  | .ptr id _ _ | .msl id | .rsl id _ _ _ | .psl id _ _ _ _ | .ifm _ id | .map id => Nat.blt id n
  | .rptr l => belowL n l
  | .sl _ es c => belowE n es && cpBelow n c
  | .fn _ l => belowL n l
  | .bfn _ l => belowL n l
  | _ => true
def belowL (n : Nat) : List AC → Bool
  | [] => true
  | x :: r => below n x && belowL n r
def belowE (n : Nat) : List (List AC) → Bool
  | [] => true
  | x :: r => belowL n x && belowE n r
end
mutual
def belowV (n : Nat) : AV → Bool
  | .any => true
  | .c x => below n x
  | .agg l => belowL n l
  | .tup l => belowVL n l
def belowVL (n : Nat) : List AV → Bool
  | [] => true
  | x :: r => belowV n x && belowVL n r
end
def belowO (n : Nat) : AObj → Bool
  | .spare => true
  | .row es => belowE n es
  | .map es _ => es.all fun e => belowV n e.1 && belowV n e.2.1
/-- All objects of a heap have numbers below n, and name such alone. -/
def belowH (n : Nat) (h : Heap) : Prop := ∀ id ob, h id = some ob → id < n ∧ belowO n ob = true

theorem belowL_get {n : Nat} : ∀ {l : List AC}, belowL n l = true → ∀ (j : Nat) (x : AC), l[j]? = some x → below n x = true
  | [], _, j, x, hx => by simp at hx
  | y :: r, h, j, x, hx => by
    rw [belowL, Bool.and_eq_true] at h
    cases j with
    | zero => simp at hx; subst hx; exact h.1
    | succ j => simp at hx; exact belowL_get h.2 j x hx
theorem belowE_get {n : Nat} : ∀ {l : List (List AC)}, belowE n l = true → ∀ (j : Nat) (x : List AC), l[j]? = some x → belowL n x = true
  | [], _, j, x, hx => by simp at hx
  | y :: r, h, j, x, hx => by
    rw [belowE, Bool.and_eq_true] at h
    cases j with
    | zero => simp at hx; subst hx; exact h.1
    | succ j => simp at hx; exact belowE_get h.2 j x hx
theorem belowL_of {n : Nat} : ∀ {l : List AC}, (∀ (j : Nat) (x : AC), l[j]? = some x → below n x = true) → belowL n l = true
  | [], _ => by rw [belowL]
  | y :: r, h => by rw [belowL, h 0 y (by simp), belowL_of fun j x hx => h (j + 1) x (by simpa using hx)]; rfl
theorem belowE_of {n : Nat} : ∀ {l : List (List AC)}, (∀ (j : Nat) (x : List AC), l[j]? = some x → belowL n x = true) → belowE n l = true
  | [], _ => by rw [belowE]
  | y :: r, h => by rw [belowE, h 0 y (by simp), belowE_of fun j x hx => h (j + 1) x (by simpa using hx)]; rfl

section
variable {G : Ghost} {h : Heap} {n : Nat} {w : World}

theorem obj_lt (hf : Fresh G h n) {id : Nat} {pl : Place} (ho : G.obj id = some pl) : Nat.blt id n = true := by
  rw [Nat.blt_eq]
  rcases Nat.lt_or_ge id n with hlt | hge
  · exact hlt
  · rw [(hf id hge).2] at ho; cases ho

mutual
/-- What a ghost tells names its own objects alone. -/
theorem rep_below (hi : Inv G h w) (hf : Fresh G h n) : ∀ (x : AC) (v : Value), Rep G x v → below n x = true
  | .int _ _, _, _ => by simp [below]
  | .bool _, _, _ => by simp [below]
  | .str _, _, _ => by simp [below]
  | .nilp, _, _ => by simp [below]
  | .nilmap, _, _ => by simp [below]
  | .nilfn, _, _ => by simp [below]
  | .ptr id i o, v, ⟨pl, h1, _⟩ => by rw [below]; exact obj_lt hf h1
  | .msl id, v, ⟨pl, h1, _⟩ => by rw [below]; exact obj_lt hf h1
  | .rsl id _ _ _, v, ⟨pl, h1, _⟩ => by rw [below]; exact obj_lt hf h1
  | .psl id _ _ _ _, v, ⟨pl, h1, _⟩ => by rw [below]; exact obj_lt hf h1
  | .ifm _ id, v, ⟨pl, h1, _⟩ => by rw [below]; exact obj_lt hf h1
  | .map id, v, ⟨pl, h1, _⟩ => by rw [below]; exact obj_lt hf h1
  | .rptr l, v, hr => by
    rw [below]
    obtain ⟨b, o, _, h2⟩ := hr
    exact fxL_below hi hf l b o h2
  | .bfn f l, v, ⟨vs, _, h2⟩ => by
    rw [below]
    exact repL_below hi hf l _ (hi.cap _ _ _ h2)
  | .fn f l, v, ⟨vs, _, h2⟩ => by
    rw [below]
    rcases h2 with ⟨rfl, _⟩ | h2
    · rw [belowL]
    · exact repL_below hi hf l _ (hi.cap _ _ _ h2)
  | .sl sz es c, v, hr => by
    rw [below, Bool.and_eq_true]
    have key : (∃ b o, SealRow G b o sz es) ∨ es = [] := by
      cases c with
      | nil => exact .inr hr.1
      | none => rcases hr with ⟨b, o, cap, _, _, h3⟩ | ⟨h1, _⟩; exact .inl ⟨b, o, h3⟩; exact .inr h1
      | full => rcases hr with ⟨b, o, _, h3⟩ | ⟨h1, _⟩; exact .inl ⟨b, o, h3⟩; exact .inr h1
      | tok id => obtain ⟨pl, _, _, _, _, _, h6⟩ := hr; exact .inl ⟨_, _, h6⟩
    refine ⟨?_, ?_⟩
    · rcases key with ⟨b, o, h3⟩ | rfl
      · exact rows_below hi hf es b o sz h3
      · rw [belowE]
    · cases c <;> try rfl
      obtain ⟨pl, h1, _⟩ := hr
      exact obj_lt hf h1
theorem fxL_below (hi : Inv G h w) (hf : Fresh G h n) : ∀ (l : List AC) (b o : Nat), (∀ (j : Nat) (x : AC), l[j]? = some x → G.fx b (o + j) x) → belowL n l = true
  | [], _, _, _ => by rw [belowL]
  | x :: r, b, o, hx => by
    rw [belowL, Bool.and_eq_true]
    obtain ⟨v, _, h2⟩ := hi.fx _ _ _ (hx 0 x (by simp))
    refine ⟨rep_below hi hf x v h2, fxL_below hi hf r b (o + 1) fun j y hy => ?_⟩
    have := hx (j + 1) y (by simpa using hy)
    rwa [show o + (j + 1) = o + 1 + j by omega] at this
theorem repL_below (hi : Inv G h w) (hf : Fresh G h n) : ∀ (l : List AC) (vs : List Value), F2 (Rep G) l vs → belowL n l = true
  | [], _, _ => by rw [belowL]
  | x :: r, _, .cons h1 h2 => by
    rw [belowL, Bool.and_eq_true]
    exact ⟨rep_below hi hf x _ h1, repL_below hi hf r _ h2⟩
theorem rows_below (hi : Inv G h w) (hf : Fresh G h n) : ∀ (es : List (List AC)) (b o sz : Nat), SealRow G b o sz es → belowE n es = true
  | [], _, _, _, _ => by rw [belowE]
  | e :: r, b, o, sz, hs => by
    rw [belowE, Bool.and_eq_true]
    refine ⟨fxL_below hi hf e b o fun j x hx => by simpa using (hs 0 e (by simp)).2 j x hx, rows_below hi hf r b (o + sz) sz fun i e' he => ?_⟩
    obtain ⟨h1, h2⟩ := hs (i + 1) e' (by simpa using he)
    refine ⟨h1, fun j x hx => ?_⟩
    have := h2 j x hx
    rwa [show o + (i + 1) * sz + j = o + sz + i * sz + j by rw [Nat.succ_mul]; omega] at this
end

/-- The ghost of what stays. -/
def Ghost.cut (G : Ghost) (n : Nat) : Ghost := ⟨fun b o x => G.fx b o x ∧ below n x = true, fun id => if id < n then G.obj id else none, fun f vs cs => G.cap f vs cs ∧ belowL n cs = true⟩

theorem cut_obj {id : Nat} {pl : Place} (h1 : G.obj id = some pl) (hb : Nat.blt id n = true) : (G.cut n).obj id = some pl := by
  rw [Nat.blt_eq] at hb
  simp [Ghost.cut, hb, h1]

theorem seal_cut {b o sz : Nat} {es : List (List AC)} (h : SealRow G b o sz es) (hb : belowE n es = true) : SealRow (G.cut n) b o sz es :=
  fun i e he => ⟨(h i e he).1, fun j x hx => ⟨(h i e he).2 j x hx, belowL_get (belowE_get hb i e he) j x hx⟩⟩

theorem rep_cut {x : AC} {v : Value} (hr : Rep G x v) (hb : below n x = true) : Rep (G.cut n) x v := by
  cases x with
  | ptr id i off => rw [below] at hb; obtain ⟨pl, h1, h2⟩ := hr; exact ⟨pl, cut_obj h1 hb, h2⟩
  | msl id => rw [below] at hb; obtain ⟨pl, h1, h2⟩ := hr; exact ⟨pl, cut_obj h1 hb, h2⟩
  | rsl id lo m f => rw [below] at hb; obtain ⟨pl, h1, h2⟩ := hr; exact ⟨pl, cut_obj h1 hb, h2⟩
  | psl id i off sz m => rw [below] at hb; obtain ⟨pl, h1, h2⟩ := hr; exact ⟨pl, cut_obj h1 hb, h2⟩
  | ifm t id => rw [below] at hb; obtain ⟨pl, h1, h2⟩ := hr; exact ⟨pl, cut_obj h1 hb, h2⟩
  | map id => rw [below] at hb; obtain ⟨pl, h1, h2⟩ := hr; exact ⟨pl, cut_obj h1 hb, h2⟩
  | rptr l => rw [below] at hb; obtain ⟨b, o, h1, h2⟩ := hr; exact ⟨b, o, h1, fun j y hy => ⟨h2 j y hy, belowL_get hb j y hy⟩⟩
  | fn f l => rw [below] at hb; obtain ⟨vs, h1, h2⟩ := hr; exact ⟨vs, h1, h2.imp id fun h => ⟨h, hb⟩⟩
  | bfn f l => rw [below] at hb; obtain ⟨vs, h1, h2⟩ := hr; exact ⟨vs, h1, h2, hb⟩
  | sl sz es c =>
    rw [below, Bool.and_eq_true] at hb
    obtain ⟨hb1, hb2⟩ := hb
    cases c with
    | nil => exact hr
    | none =>
      rcases hr with ⟨b, o, cap, h1, h2, h3⟩ | h
      · exact .inl ⟨b, o, cap, h1, h2, seal_cut h3 hb1⟩
      · exact .inr h
    | full =>
      rcases hr with ⟨b, o, h1, h3⟩ | h
      · exact .inl ⟨b, o, h1, seal_cut h3 hb1⟩
      · exact .inr h
    | tok id => obtain ⟨pl, h1, h2, h3, h4, h5, h6⟩ := hr; exact ⟨pl, cut_obj h1 hb2, h2, h3, h4, h5, seal_cut h6 hb1⟩
  | _ => exact hr

theorem repL_cut : ∀ {l : List AC} {vs : List Value}, F2 (Rep G) l vs → belowL n l = true → F2 (Rep (G.cut n)) l vs
  | _, _, .nil, _ => .nil
  | x :: r, _, .cons h1 h2, hb => by
    rw [belowL, Bool.and_eq_true] at hb
    exact .cons (rep_cut h1 hb.1) (repL_cut h2 hb.2)
theorem repE_cut {x : AV} {v : Value} (hr : RepE G x v) (hb : belowV n x = true) : RepE (G.cut n) x v := by
  cases x with
  | any => trivial
  | c x => rw [belowV] at hb; exact rep_cut hr hb
  | agg l => rw [belowV] at hb; obtain ⟨vs, h1, h2⟩ := hr; exact ⟨vs, h1, repL_cut h2 hb⟩
  | tup _ => exact hr.elim
theorem repV_cut {x : AV} {v : Value} (hr : RepV G x v) (hb : belowV n x = true) : RepV (G.cut n) x v := by
  cases x with
  | any => trivial
  | c x => exact repE_cut (x := .c x) hr hb
  | agg l => exact repE_cut (x := .agg l) hr hb
  | tup l =>
    rw [belowV] at hb
    obtain ⟨vs, h1, h2⟩ := hr
    refine ⟨vs, h1, ?_⟩
    generalize vs.toList = us at h2
    clear h1
    induction h2 with
    | nil => exact .nil
    | cons p _ ih =>
      rw [belowVL, Bool.and_eq_true] at hb
      exact .cons (repE_cut p hb.1) (ih hb.2)

theorem inv_cut (hi : Inv G h w) (hb : belowH n h) : Inv (G.cut n) h w :=
  ⟨fun b o x hx => by
      obtain ⟨v, h1, h2⟩ := hi.fx b o x hx.1
      exact ⟨v, h1, rep_cut h2 hx.2⟩,
    fun f vs cs hx => repL_cut (hi.cap f vs cs hx.1) hx.2,
    fun id ob e => by
      obtain ⟨pl, h1, h2⟩ := hi.obj id ob e
      obtain ⟨hlt, hob⟩ := hb id ob e
      refine ⟨pl, by simp [Ghost.cut, hlt, h1], ?_⟩
      cases ob with
      | spare => exact h2
      | row es =>
        obtain ⟨g1, g2, cs, el, fr, g3, g4, g5, g6⟩ := h2
        refine ⟨g1, g2, cs, el, fr, g3, g4, g5, fun i e' he => ⟨(g6 i e' he).1, fun j x hx => ?_⟩⟩
        obtain ⟨v, q1, q2⟩ := (g6 i e' he).2 j x hx
        simp only [belowO] at hob
        exact ⟨v, q1, rep_cut q2 (belowL_get (belowE_get hob i e' he) j x hx)⟩
      | map es ck =>
        obtain ⟨en, g1, g2, g3⟩ := h2
        refine ⟨en, g1, ?_, g3⟩
        simp only [belowO] at hob
        generalize en.toList = l at g2
        clear g3 g1 e
        induction g2 with
        | nil => exact .nil
        | cons p _ ih =>
          simp only [List.all_cons, Bool.and_eq_true] at hob
          exact .cons ⟨repE_cut p.key hob.1.1, p.kne, repE_cut p.val hob.1.2, p.vne, p.born⟩ (ih hob.2),
    fun id id' pl pl' h1 h2 h3 h4 => by
      have k1 : G.obj id = some pl := by simp only [Ghost.cut] at h3; split at h3; exact h3; cases h3
      have k2 : G.obj id' = some pl' := by simp only [Ghost.cut] at h4; split at h4; exact h4; cases h4
      exact hi.excl id id' pl pl' h1 h2 k1 k2,
    fun id pl o x h1 h2 h3 => by
      have k1 : G.obj id = some pl := by simp only [Ghost.cut] at h2; split at h2; exact h2; cases h2
      exact hi.exclS id pl o x h1 k1 h3.1⟩

/-- Numbers are given out anew, where nothing that stays names what was made. -/
theorem Fn_drop {P : Program} {f : Nat} {args : List AV} {K K2 : AV → Heap → Nat → Prop} (hF : Fn P f args h n K)
    (hK : ∀ r h' n', n ≤ n' → K r h' n' → ∃ r2 h2, Weak r r2 ∧ Sub h2 h' ∧ belowV n r2 = true ∧ belowH n h2 ∧ K2 r2 h2 n) : Fn P f args h n K2 := by
  intro G vs w hargs hi hf
  refine (hF G vs w hargs hi hf).mono fun e w' ⟨cv, r, h', n', G', e1, e2, e3, e4, e5⟩ => ?_
  obtain ⟨r2, h2, k1, k2, k3, k4, k5⟩ := hK r h' n' e5.next e2
  have i2 := e4.sub k2
  have x2 := e5.sub k2
  refine ⟨cv, r2, h2, n, G'.cut n, e1, k5, repV_cut (k1 _ _ e3) k3, inv_cut i2 k4, ⟨?_, x2.os, x2.tape, x2.output, x2.size, x2.keep, fun b hb => x2.live b ?_, Nat.le_refl _, fun id hid => ⟨?_, ?_⟩⟩⟩
  · refine ⟨fun b o x hx => ⟨x2.le.fx b o x hx, ?_⟩, fun id pl ho => cut_obj (x2.le.obj id pl ho) (obj_lt hf ho), fun f vs cs hc => ⟨x2.le.cap f vs cs hc, repL_below hi hf cs _ (hi.cap _ _ _ hc)⟩⟩
    obtain ⟨v, _, g2⟩ := hi.fx b o x hx
    exact rep_below hi hf x v g2
  · obtain ⟨id, pl, g1, g2, g3⟩ := hb
    have k1 : G'.obj id = some pl := by simp only [Ghost.cut] at g2; split at g2; exact g2; cases g2
    exact ⟨id, pl, g1, k1, g3⟩
  · cases hq : h2 id with
    | none => rfl
    | some ob => have := (k4 id ob hq).1; omega
  · simp only [Ghost.cut]; rw [if_neg (by omega)]

end
end Go.Ab
