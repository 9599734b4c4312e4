/- Abstract code, carried out by a program of Lean: code and functions. -/
import Derived.Test.YtdbaldohbjnlpaaGreatAb30
set_option linter.unusedVariables false
set_option linter.unusedSimpArgs false
namespace Go.Ab

/-! Values held against each other -/
mutual
def acB : AC → AC → Bool
  | .int k n, .int k' n' => k == k' && n == n'
  | .bool b, .bool b' => b == b'
  | .str s, .str s' => s == s'
  | .nilp, .nilp | .nilmap, .nilmap | .nilfn, .nilfn => true
  | .ptr i j o, .ptr i' j' o' => i == i' && j == j' && o == o'
  | .rptr l, .rptr l' => acLB l l'
  | .sl z es c, .sl z' es' c' => z == z' && acEB es es' && c == c'
  | .msl i, .msl i' => i == i'
  | .rsl i l n f, .rsl i' l' n' f' => i == i' && l == l' && n == n' && f == f'
  | .psl i j o z n, .psl i' j' o' z' n' => i == i' && j == j' && o == o' && z == z' && n == n'
  | .ifm t i, .ifm t' i' => t == t' && i == i'
  | .map i, .map i' => i == i'
  | .fn f l, .fn f' l' => f == f' && acLB l l'
  | .bfn f l, .bfn f' l' => f == f' && acLB l l'
  | _, _ => false
def acLB : List AC → List AC → Bool
  | [], [] => true
  | x :: l, y :: m => acB x y && acLB l m
  | _, _ => false
def acEB : List (List AC) → List (List AC) → Bool
  | [], [] => true
  | x :: l, y :: m => acLB x y && acEB l m
  | _, _ => false
end
mutual
theorem acB_eq : ∀ (x y : AC), acB x y = true → x = y
  | .int k n, y, h => by cases y <;> simp [acB] at h; obtain ⟨rfl, rfl⟩ := h; rfl
  | .bool b, y, h => by cases y <;> simp [acB] at h; subst h; rfl
  | .str s, y, h => by cases y <;> simp [acB] at h; subst h; rfl
  | .nilp, y, h => by cases y <;> simp [acB] at h; rfl
  | .nilmap, y, h => by cases y <;> simp [acB] at h; rfl
  | .nilfn, y, h => by cases y <;> simp [acB] at h; rfl
  | .ptr i j o, y, h => by cases y <;> simp [acB] at h; obtain ⟨⟨rfl, rfl⟩, rfl⟩ := h; rfl
  | .rptr l, y, h => by cases y <;> simp [acB] at h; rw [acLB_eq _ _ h]
  | .sl z es c, y, h => by cases y <;> simp [acB] at h; obtain ⟨⟨rfl, h2⟩, rfl⟩ := h; rw [acEB_eq _ _ h2]
  | .msl i, y, h => by cases y <;> simp [acB] at h; subst h; rfl
  | .rsl i l n f, y, h => by cases y <;> simp [acB] at h; obtain ⟨⟨⟨rfl, rfl⟩, rfl⟩, rfl⟩ := h; rfl
  | .psl i j o z n, y, h => by cases y <;> simp [acB] at h; obtain ⟨⟨⟨⟨rfl, rfl⟩, rfl⟩, rfl⟩, rfl⟩ := h; rfl
  | .ifm t i, y, h => by cases y <;> simp [acB] at h; obtain ⟨rfl, rfl⟩ := h; rfl
  | .map i, y, h => by cases y <;> simp [acB] at h; subst h; rfl
  | .bfn f l, y, h => by cases y <;> simp [acB] at h; obtain ⟨rfl, h2⟩ := h; rw [acLB_eq _ _ h2]
  | .fn f l, y, h => by cases y <;> simp [acB] at h; obtain ⟨rfl, h2⟩ := h; rw [acLB_eq _ _ h2]
theorem acLB_eq : ∀ (x y : List AC), acLB x y = true → x = y
  | [], [], _ => rfl
  | x :: l, y :: m, h => by simp [acLB] at h; rw [acB_eq _ _ h.1, acLB_eq _ _ h.2]
  | [], _ :: _, h => by simp [acLB] at h
  | _ :: _, [], h => by simp [acLB] at h
theorem acEB_eq : ∀ (x y : List (List AC)), acEB x y = true → x = y
  | [], [], _ => rfl
  | x :: l, y :: m, h => by simp [acEB] at h; rw [acLB_eq _ _ h.1, acEB_eq _ _ h.2]
  | [], _ :: _, h => by simp [acEB] at h
  | _ :: _, [], h => by simp [acEB] at h
end
mutual
def avB : AV → AV → Bool
  | .any, .any => true
  | .c x, .c y => acB x y
  | .agg l, .agg m => acLB l m
  | .tup l, .tup m => avLB l m
  | _, _ => false
def avLB : List AV → List AV → Bool
  | [], [] => true
  | x :: l, y :: m => avB x y && avLB l m
  | _, _ => false
end
mutual
theorem avB_eq : ∀ (x y : AV), avB x y = true → x = y
  | .any, y, h => by cases y <;> simp [avB] at h; rfl
  | .c x, y, h => by cases y <;> simp [avB] at h; rw [acB_eq _ _ h]
  | .agg x, y, h => by cases y <;> simp [avB] at h; rw [acLB_eq _ _ h]
  | .tup x, y, h => by cases y <;> simp [avB] at h; rw [avLB_eq _ _ h]
theorem avLB_eq : ∀ (x y : List AV), avLB x y = true → x = y
  | [], [], _ => rfl
  | x :: l, y :: m, h => by simp [avLB] at h; rw [avB_eq _ _ h.1, avLB_eq _ _ h.2]
  | [], _ :: _, h => by simp [avLB] at h
  | _ :: _, [], h => by simp [avLB] at h
end

/-! Operations that make or turn objects -/
structure SE where
  env : Env
  t : T
  n : Nat
def SE.den (S : SE) : St := ⟨S.env, S.t.den, S.n⟩

theorem chE_ok {o : AOp} {env : Env} {t t' : T} {n n' : Nat} {v : AV} (H : chE o env t n = some (v, t', n')) : ∃ c, ch o env t.den n = some (c, v, t'.den, n') ∧ c := by
  have U : ∀ (t : T) (o : AObj), (t.upd n o).den = t.den.upd n o := fun t o => T.den_upd t n o
  cases o
  all_goals simp only [chE, chE_asg, chE_box, chE_alloc, chE_app, chE_appM, chE_mksl, chE_cpy, chE_mkmap, chE_mupd, chE_mdel, chE_mentry, chE_estore, chE_mclone, chE_slM, chE_frz, chE_store, evE_eq, fillsE_eq, funEvE_eq, T.updF_eq] at H
  case asg x => cases H; exact ⟨True, rfl, trivial⟩
  case box x =>
    simp only [ch]
    cases hx : x.ev env <;> simp only [hx] at H ⊢ <;> (try (cases H; done))
    · cases H; exact ⟨True, by rw [U], trivial⟩
    · cases H; exact ⟨True, by rw [U], trivial⟩
  case alloc z => cases H; exact ⟨True, by simp only [ch]; rw [U], trivial⟩
  case mkmap => cases H; exact ⟨True, by simp only [ch]; rw [U], trivial⟩
  case slM sz k z ps =>
    simp only [ch]
    obtain ⟨h1, h2⟩ := mustC_some H
    cases h2
    exact ⟨_, by rw [U], fillsOkE_ok _ _ _ (of_decide_eq_true h1)⟩
  case frz sz x =>
    simp only [ch]
    cases hx : x.ev env <;> simp only [hx] at H ⊢ <;> (try (cases H; done))
    rename_i y
    cases y <;> (try simp only at H ⊢) <;> (try (cases H; done))
    rename_i id
    cases hid : t.get id with
    | none => rw [hid] at H; cases H
    | some ob =>
      rw [hid] at H
      have hid' : t.den id = some ob := hid
      cases ob <;> (try simp only at H) <;> (try (cases H; done))
      obtain ⟨h1, h2⟩ := mustC_some H
      cases h2
      simp only [hid']
      exact ⟨_, by rw [T.den_upd], of_decide_eq_true h1⟩
  case store sz x y =>
    simp only [ch]
    cases hx : x.ev env <;> simp only [hx] at H ⊢ <;> (try (cases H; done))
    rename_i z
    cases z <;> (try simp only at H ⊢) <;> (try (cases H; done))
    rename_i id i off
    cases hid : t.get id with
    | none => rw [hid] at H; cases H
    | some ob =>
      rw [hid] at H
      have hid' : t.den id = some ob := hid
      cases ob <;> (try simp only at H) <;> (try (cases H; done))
      rename_i es
      cases he : es[i]? with
      | none => rw [he] at H; cases H
      | some e =>
        rw [he] at H
        simp only [hid', he] at H ⊢
        cases hy : y.ev env <;> simp only [hy] at H ⊢ <;> (try (cases H; done))
        · obtain ⟨h1, h2⟩ := mustC_some H
          cases h2
          exact ⟨_, by rw [T.den_upd], of_decide_eq_true h1⟩
        · obtain ⟨h1, h2⟩ := mustC_some H
          cases h2
          exact ⟨_, by rw [T.den_upd], of_decide_eq_true h1⟩
  case app sz bytes s x =>
    simp only [ch]
    cases hx : x.ev env <;> simp only [hx] at H ⊢ <;> (try (cases H; done))
    rename_i xx
    cases hv : viewE sz t.den xx with
    | none => rw [hv] at H; cases H
    | some ys =>
      obtain ⟨p, h2, h3⟩ := viewE_ok hv
      rw [hv] at H
      simp only [h2] at H ⊢
      cases hs : s.ev env <;> simp only [hs] at H ⊢ <;> (try (cases H; done))
      rename_i y
      cases y <;> (try simp only at H ⊢) <;> (try (cases H; done))
      · rename_i sz' es c
        obtain ⟨h4, h5⟩ := mustC_some H
        cases h5
        have h6 := of_decide_eq_true h4
        refine ⟨_, ?_, (⟨h6.1, h3, h6.2⟩ : _ ∧ _ ∧ _)⟩
        cases hys : ys.isEmpty
        · simp only [cond_false, U]
          cases c <;> first | rfl | (rename_i i; simp only [delCpT, delCp]; rw [T.den_del])
        · simp only [cond_true]
      · rename_i id
        cases hid : t.get id with
        | none => rw [hid] at H; cases H
        | some ob =>
          rw [hid] at H
          have hid' : t.den id = some ob := hid
          cases ob <;> (try simp only at H) <;> (try (cases H; done))
          obtain ⟨h4, h5⟩ := mustC_some H
          cases h5
          simp only [hid']
          exact ⟨_, by rw [U, T.den_del], (⟨h3, of_decide_eq_true h4⟩ : _ ∧ _)⟩
  case appM sz bytes s x =>
    simp only [ch]
    cases hx : x.ev env <;> simp only [hx] at H ⊢ <;> (try (cases H; done))
    rename_i xx
    cases hv : viewE sz t.den xx with
    | none => rw [hv] at H; cases H
    | some ys =>
      obtain ⟨p, h2, h3⟩ := viewE_ok hv
      rw [hv] at H
      simp only [h2] at H ⊢
      cases hs : s.ev env <;> simp only [hs] at H ⊢ <;> (try (cases H; done))
      rename_i y
      cases y <;> (try simp only at H ⊢) <;> (try (cases H; done))
      · rename_i sz' es c
        cases c <;> (try simp only at H ⊢) <;> (try (cases H; done))
        all_goals
          obtain ⟨h4, h5⟩ := mustC_some H
          cases h5
          have h6 := of_decide_eq_true h4
          refine ⟨_, ?_, (⟨h6.1, h3, h6.2⟩ : _ ∧ _ ∧ _)⟩
          cases hys : ys.isEmpty
          · simp only [cond_false, U]
          · simp only [cond_true]
      · rename_i id
        cases hid : t.get id with
        | none => rw [hid] at H; cases H
        | some ob =>
          rw [hid] at H
          have hid' : t.den id = some ob := hid
          cases ob <;> (try simp only at H) <;> (try (cases H; done))
          obtain ⟨h4, h5⟩ := mustC_some H
          cases h5
          simp only [hid']
          exact ⟨_, by rw [U, T.den_del], (⟨h3, of_decide_eq_true h4⟩ : _ ∧ _)⟩
      · rename_i id lo m f
        cases f <;> (try simp only at H ⊢) <;> (try (cases H; done))
        cases hw : viewE sz t.den (.rsl id lo m true) with
        | none => rw [hw] at H; cases H
        | some es =>
          obtain ⟨q, h7, h8⟩ := viewE_ok hw
          rw [hw] at H
          simp only [h7] at H ⊢
          obtain ⟨h4, h5⟩ := mustC_some H
          cases h5
          have h6 := of_decide_eq_true h4
          refine ⟨_, ?_, (⟨h8, h3, h6⟩ : _ ∧ _ ∧ _)⟩
          cases hys : ys.isEmpty
          · simp only [cond_false, U]
          · simp only [cond_true]
  case mksl m sz bytes zero l c =>
    simp only [ch]
    cases hx : l.ev env <;> simp only [hx] at H ⊢ <;> (try (cases H; done))
    rename_i x
    cases x <;> (try simp only at H ⊢) <;> (try (cases H; done))
    cases hy : c.ev env <;> simp only [hy] at H ⊢ <;> (try (cases H; done))
    rename_i y
    cases y <;> (try simp only at H ⊢) <;> (try (cases H; done))
    obtain ⟨h4, h5⟩ := mustC_some H
    cases h5
    exact ⟨_, by rw [U], of_decide_eq_true h4⟩
  case cpy sz x y =>
    simp only [ch]
    cases hx : y.ev env <;> simp only [hx] at H ⊢ <;> (try (cases H; done))
    rename_i xx
    cases hv : viewE sz t.den xx with
    | none => rw [hv] at H; cases H
    | some ys =>
      obtain ⟨p, h2, h3⟩ := viewE_ok hv
      rw [hv] at H
      simp only [h2] at H ⊢
      cases hs : x.ev env <;> simp only [hs] at H ⊢ <;> (try (cases H; done))
      rename_i z
      cases z <;> (try simp only at H ⊢) <;> (try (cases H; done))
      rename_i id i off sz' m
      cases hid : t.get id with
      | none => rw [hid] at H; cases H
      | some ob =>
        rw [hid] at H
        have hid' : t.den id = some ob := hid
        cases ob <;> (try simp only at H) <;> (try (cases H; done))
        rename_i es
        cases he : es[i]? with
        | none => rw [he] at H; cases H
        | some e =>
          rw [he] at H
          simp only [hid', he] at H ⊢
          obtain ⟨h4, h5⟩ := mustC_some H
          cases h5
          exact ⟨_, by rw [T.den_upd], (⟨h3, of_decide_eq_true h4⟩ : _ ∧ _)⟩
  case mupd ks x k u =>
    simp only [ch]
    cases hx : x.ev env <;> simp only [hx] at H ⊢ <;> (try (cases H; done))
    rename_i z
    cases z <;> (try simp only at H ⊢) <;> (try (cases H; done))
    rename_i id
    cases hid : t.get id with
    | none => rw [hid] at H; cases H
    | some ob =>
      rw [hid] at H
      have hid' : t.den id = some ob := hid
      cases ob <;> (try simp only at H) <;> (try (cases H; done))
      obtain ⟨h4, h5⟩ := mustC_some H
      cases h5
      simp only [hid']
      exact ⟨_, by rw [T.den_upd], of_decide_eq_true h4⟩
  case mdel ks x k =>
    simp only [ch]
    cases hx : x.ev env <;> simp only [hx] at H ⊢ <;> (try (cases H; done))
    rename_i z
    cases z <;> (try simp only at H ⊢) <;> (try (cases H; done))
    · obtain ⟨h4, h5⟩ := mustC_some H
      cases h5
      exact ⟨_, rfl, of_decide_eq_true h4⟩
    · rename_i id
      cases hid : t.get id with
      | none => rw [hid] at H; cases H
      | some ob =>
        rw [hid] at H
        have hid' : t.den id = some ob := hid
        cases ob <;> (try simp only at H) <;> (try (cases H; done))
        obtain ⟨h4, h5⟩ := mustC_some H
        cases h5
        simp only [hid']
        exact ⟨_, by rw [T.den_upd], of_decide_eq_true h4⟩
  case mentry ks zero x k =>
    simp only [ch]
    cases hx : x.ev env <;> simp only [hx] at H ⊢ <;> (try (cases H; done))
    rename_i z
    cases z <;> (try simp only at H ⊢) <;> (try (cases H; done))
    rename_i id
    cases hid : t.get id with
    | none => rw [hid] at H; cases H
    | some ob =>
      rw [hid] at H
      have hid' : t.den id = some ob := hid
      cases ob <;> (try simp only at H) <;> (try (cases H; done))
      rename_i es ck
      cases hf : findM (k.ev env).cells es with
      | none =>
        rw [hf] at H
        obtain ⟨h4, h5⟩ := mustC_some H
        cases h5
        simp only [hid', hf]
        exact ⟨_, by rw [T.den_upd], of_decide_eq_true h4⟩
      | some vb =>
        rw [hf] at H
        obtain ⟨h4, h5⟩ := mustC_some H
        cases h5
        simp only [hid', hf]
        exact ⟨_, by rw [T.den_upd], of_decide_eq_true h4⟩
  case estore x s u =>
    simp only [ch]
    cases hx : x.ev env <;> simp only [hx] at H ⊢ <;> (try (cases H; done))
    rename_i z
    cases z <;> (try simp only at H ⊢) <;> (try (cases H; done))
    rename_i id
    cases hs : s.ev env <;> simp only [hs] at H ⊢ <;> (try (cases H; done))
    rename_i z
    cases z <;> (try simp only at H ⊢) <;> (try (cases H; done))
    rename_i kd b
    cases hid : t.get id with
    | none => rw [hid] at H; cases H
    | some ob =>
      rw [hid] at H
      have hid' : t.den id = some ob := hid
      cases ob <;> (try simp only at H) <;> (try (cases H; done))
      rename_i es ck
      cases hb : bornM (u.ev env) b.toNat es with
      | none => rw [hb] at H; cases H
      | some es' =>
        rw [hb] at H
        obtain ⟨h4, h5⟩ := mustC_some H
        cases h5
        simp only [hid', hb]
        exact ⟨_, by rw [T.den_upd], of_decide_eq_true h4⟩
  case mclone x =>
    simp only [ch]
    cases hx : x.ev env <;> simp only [hx] at H ⊢ <;> (try (cases H; done))
    rename_i z
    cases z <;> (try simp only at H ⊢) <;> (try (cases H; done))
    rename_i ty id
    cases hid : t.get id with
    | none => rw [hid] at H; cases H
    | some ob =>
      rw [hid] at H
      have hid' : t.den id = some ob := hid
      cases ob <;> (try simp only at H) <;> (try (cases H; done))
      cases H
      simp only [hid']
      exact ⟨_, by rw [U], trivial⟩
  all_goals (cases H)

/-! One operation, regions, code, functions -/
abbrev FnEv := Nat → List AV → T → Nat → Option (AV × T × Nat)

def putS (e : Env) (d : Option Nat) (v : AV) (t : T) (n : Nat) : Option SE := match d with
  | none => some ⟨e, t, n⟩
  | some d => some ⟨(d, v) :: e, t, n⟩
theorem putS_eq (e : Env) (d : Option Nat) (v : AV) (t : T) (n : Nat) : putS e d v t n = some ⟨putE e d v, t, n⟩ := by cases d <;> rfl
def callE (F : FnEv) (dst : Option Nat) (f : Nat) (args : List AV) (S : SE) : Option SE :=
  forceVs args fun args => bif args.all noTup then match F f args S.t S.n with
    | some (r, t', n') => forceV r fun r => forceT t' fun t' => forceN n' fun n' => putS S.env dst r t' n'
    | none => none
  else none
theorem callE_eq (F : FnEv) (dst : Option Nat) (f : Nat) (args : List AV) (S : SE) : callE F dst f args S = (bif args.all noTup then match F f args S.t S.n with
    | some (r, t', n') => some ⟨putE S.env dst r, t', n'⟩
    | none => none
  else none) := by
  simp only [callE, forceVs_eq, forceV_eq, forceT_eq, forceN_eq, putS_eq]
def stepE (F : FnEv) (o : AOper) (S : SE) : Option SE :=
  match o.op with
  | .call f args => callE F o.dst f (args.map (evE S.env)) S
  | .callv x args => match evE S.env x with
    | .c (.fn f caps) => bif (args.map (evE S.env)).all noTup then callE F o.dst f (args.map (evE S.env) ++ caps.map .c) S else none
    | .c (.bfn f caps) => bif (args.map (evE S.env)).all noTup then callE F o.dst f (caps.map .c ++ args.map (evE S.env)) S else none
    | _ => none
  | op => match flE op S.env S.t.den with
    | some v => forceV v fun v => putS S.env o.dst v S.t S.n
    | none => match chE op S.env S.t S.n with
      | some (v, t', n') => forceV v fun v => forceT t' fun t' => forceN n' fun n' => putS S.env o.dst v t' n'
      | none => none
def operE (F : FnEv) (o : AOper) (S : SE) : Option SE :=
  match o.guard with
  | none => stepE F o S
  | some (t, want) => match getE S.env t with
    | .c (.bool b) => bif b == want then stepE F o ⟨(t, .c (.bool want)) :: S.env, S.t, S.n⟩ else some ⟨putE ((t, .c (.bool !want)) :: S.env) o.dst (.tup []), S.t, S.n⟩
    | .tup [] => some ⟨putE S.env o.dst (.tup []), S.t, S.n⟩
    | _ => none
def regE (F : FnEv) : List AOper → SE → Option SE
  | [], S => some S
  | o :: r, S => match operE F o S with
    | some S' => regE F r S'
    | none => none
def floatE (x : AOper) (S : SE) : Option SE :=
  match x.guard with
  | none => match flE x.op S.env S.t.den with
    | some v => forceV v fun v => putS S.env x.dst v S.t S.n
    | none => none
  | some (t, want) => match getE S.env t with
    | .c (.bool b) => bif b == want then match flE x.op ((t, .c (.bool want)) :: S.env) S.t.den with
        | some v => forceV v fun v => putS ((t, .c (.bool want)) :: S.env) x.dst v S.t S.n
        | none => none
      else some ⟨putE ((t, .c (.bool !want)) :: S.env) x.dst (.tup []), S.t, S.n⟩
    | .tup [] => some ⟨putE S.env x.dst (.tup []), S.t, S.n⟩
    | _ => none
def flEB (op : AOp) (e : Env) (h : Heap) (v : AV) : Bool := match flE op e h with
  | some u => avB u v
  | none => false
def flGE (x : AOper) (e : Env) (h : Heap) (v : AV) : Bool :=
  match x.guard with
  | none => flEB x.op e h v
  | some (t, want) => match get e t with
    | .c (.bool b) => bif b == want then flEB x.op e h v else avB v (.tup [])
    | .tup [] => avB v (.tup [])
    | _ => false
def stablesE (xs : List AOper) (S : SE) : List Nat → Bool
  | [] => true
  | k :: r => (match xs[k]? with
    | some x => match x.dst with
      | some d => flGE x S.env S.t.den (get S.env d)
      | none => false
    | none => false) && stablesE xs S r
def envB : Env → Env → Bool
  | [], [] => true
  | (a, x) :: l, (b, y) :: m => Nat.beq a b && avB x y && envB l m
  | _, _ => false
def entB : List (AV × AV × Nat) → List (AV × AV × Nat) → Bool
  | [], [] => true
  | (a, x, i) :: l, (b, y, j) :: m => avB a b && avB x y && Nat.beq i j && entB l m
  | _, _ => false
def objB : AObj → AObj → Bool
  | .spare, .spare => true
  | .row a, .row b => acEB a b
  | .map a i, .map b j => entB a b && Nat.beq i j
  | _, _ => false
def tB : T → T → Bool
  | [], [] => true
  | (a, x) :: l, (b, y) :: m => Nat.beq a b && objB x y && tB l m
  | _, _ => false
def seB (A B : SE) : Bool := envB A.env B.env && tB A.t B.t && Nat.beq A.n B.n
theorem envB_eq : ∀ {a b : Env}, envB a b = true → a = b
  | [], [], _ => rfl
  | (a, x) :: l, (b, y) :: m, h => by
    simp only [envB, Bool.and_eq_true] at h
    rw [Nat.eq_of_beq_eq_true h.1.1, avB_eq _ _ h.1.2, envB_eq h.2]
  | [], _ :: _, h => by simp [envB] at h
  | _ :: _, [], h => by simp [envB] at h
theorem entB_eq : ∀ {a b : List (AV × AV × Nat)}, entB a b = true → a = b
  | [], [], _ => rfl
  | (a, x, i) :: l, (b, y, j) :: m, h => by
    simp only [entB, Bool.and_eq_true] at h
    rw [avB_eq _ _ h.1.1.1, avB_eq _ _ h.1.1.2, Nat.eq_of_beq_eq_true h.1.2, entB_eq h.2]
  | [], _ :: _, h => by simp [entB] at h
  | _ :: _, [], h => by simp [entB] at h
theorem objB_eq {a b : AObj} (h : objB a b = true) : a = b := by
  cases a <;> cases b <;> simp only [objB, Bool.and_eq_true] at h <;> (try (cases h; done))
  · rfl
  · rw [acEB_eq _ _ h]
  · rw [entB_eq h.1, Nat.eq_of_beq_eq_true h.2]
theorem tB_eq : ∀ {a b : T}, tB a b = true → a = b
  | [], [], _ => rfl
  | (a, x) :: l, (b, y) :: m, h => by
    simp only [tB, Bool.and_eq_true] at h
    rw [Nat.eq_of_beq_eq_true h.1.1, objB_eq h.1.2, tB_eq h.2]
  | [], _ :: _, h => by simp [tB] at h
  | _ :: _, [], h => by simp [tB] at h
theorem seB_eq {A B : SE} (h : seB A B = true) : A = B := by
  obtain ⟨a, b, c⟩ := A
  obtain ⟨a', b', c'⟩ := B
  simp only [seB, Bool.and_eq_true] at h
  rw [envB_eq h.1.1, tB_eq h.1.2, Nat.eq_of_beq_eq_true h.2]
def whV {β : Type} (v : AV) (K : AV → β) : β := match v with
  | .any => K .any
  | .c x => K (.c x)
  | .agg l => K (.agg l)
  | .tup l => K (.tup l)
theorem whV_eq {β : Type} (v : AV) (K : AV → β) : whV v K = K v := by cases v <;> rfl
def keepF {β : Type} : List Nat → Env → (Env → β) → β
  | [], _, K => K []
  | t :: r, e, K => whV (getE e t) fun v => keepF r e fun l => K ((t, v) :: l)
theorem keepF_eq {β : Type} : ∀ (l : List Nat) (e : Env) (K : Env → β), keepF l e K = K (keepE l e)
  | [], e, K => rfl
  | t :: r, e, K => by simp only [keepF, whV_eq, getE_eq, keepF_eq r]; rfl
def planE (F : FnEv) (xs : List AOper) (keep : List Nat) : Plan → SE → Option SE
  | .done, S => keepF keep S.env fun e => some ⟨e, S.t, S.n⟩
  | .fl i r, S => match xs[i]? with
    | some x => match floatE x S with
      | some S' => planE F xs keep r S'
      | none => none
    | none => none
  | .ch i chk r, S => match xs[i]? with
    | some x => match operE F x S with
      | some S' => bif stablesE xs S' chk then planE F xs keep r S' else none
      | none => none
    | none => none
  | .alt i c r j d s, S => match xs[i]?, xs[j]? with
    | some x, some y => match operE F x S, operE F y S with
      | some S1, some S2 => bif stablesE xs S1 c && stablesE xs S2 d then match planE F xs keep r S1, planE F xs keep s S2 with
          | some R1, some R2 => bif seB R1 R2 then some R1 else none
          | _, _ => none
        else none
      | _, _ => none
    | _, _ => none
def loopE (body : SE → Option (Exit × SE)) : Nat → SE → Option (Exit × SE)
  | 0, _ => none
  | k + 1, S => match body S with
    | some (.normal, S') => loopE body k S'
    | r => r
def codeE (F : FnEv) (k : Nat) : BCode → SE → Option (Exit × SE)
  | .skip, S => some (.normal, S)
  | .seq a b, S => match codeE F k a S with
    | some (.normal, S') => codeE F k b S'
    | r => r
  | .reg xs keep, S => match regE F (flatT xs) S with
    | some S' => keepF keep S'.env fun e => some (.normal, ⟨e, S'.t, S'.n⟩)
    | none => none
  | .regd xs p keep, S => match planE F xs keep p S with
    | some S' => some (.normal, S')
    | none => none
  | .cond c a b, S => match evE S.env c with
    | .c (.bool true) => codeE F k a S
    | .c (.bool false) => codeE F k b S
    | _ => none
  | .block id c, S => match codeE F k c S with
    | some (.exit i, S') => bif i == id then some (.normal, S') else some (.exit i, S')
    | r => r
  | .loop c, S => loopE (codeE F k c) k S
  | .exit id, S => some (.exit id, S)
  | .ret, S => some (.ret, S)

/-- 'gc': what a call leaves behind is forgotten. -/
inductive Tab where
  | leaf
  | node (f : Nat) (bc : BCode) (rs : List ARes) (np : Nat) (gc : Bool) (l r : Tab)
def Tab.find : Tab → Nat → Option (BCode × List ARes × Nat × Bool)
  | .leaf, _ => none
  | .node f bc rs np gc l r, g => bif Nat.beq g f then some (bc, rs, np, gc) else bif Nat.blt g f then l.find g else r.find g
def dropGe (n : Nat) : T → T
  | [] => []
  | (k, o) :: r => bif Nat.blt k n then (k, o) :: r else dropGe n r
def allBelow (n : Nat) : T → Bool
  | [] => true
  | (k, o) :: r => Nat.blt k n && belowO n o && allBelow n r
/-- A result whose rows are no longer appended to in place. -/
def untC : AC → AC
  | .sl sz es (.tok _) => .sl sz es .none
  | x => x
def untE : AV → AV
  | .c x => .c (untC x)
  | .agg l => .agg (l.map untC)
  | v => v
def unTok : AV → AV
  | .tup l => .tup (l.map untE)
  | v => untE v
def collect (gc : Bool) (n : Nat) (r : AV) (t : T) (n' : Nat) : AV × T × Nat :=
  bif Nat.blt n n' && belowV n (bif gc then unTok r else r) && allBelow n (dropGe n t) then (bif gc then unTok r else r, dropGe n t, n) else (r, t, n')
def TabOk (P : Program) : Tab → Prop
  | .leaf => True
  | .node f bc rs np gc l r => ((∃ fn, P.funcs[f]? = some fn ∧ bChk P f fn np bc rs = true) ∧ fnOk P f = true) ∧ TabOk P l ∧ TabOk P r

def resE (e : Env) (h : Heap) : List ARes → Option (List AV)
  | [] => some []
  | .tmp t :: r => match resE e h r with
    | some l => some (get e t :: l)
    | none => none
  | .cell t ag sz :: r => match ldE ag sz h (get e t), resE e h r with
    | some v, some l => some (v :: l)
    | _, _ => none
def oneOrAll (vs : List AV) : Bool := match vs with
  | [_] => true
  | vs => vs.all noTup
/-- Calls whose outcome is known: the function, its arguments, what it gives. -/
abbrev Hints := List (Nat × List AV × AV)
def hintE : Hints → Nat → List AV → Option AV
  | [], _, _ => none
  | (g, as, r) :: H, f, args => bif Nat.beq g f && avLB as args then some r else hintE H f args
def hinted (fs : List Nat) (f : Nat) : Bool := match fs with
  | [] => false
  | g :: r => bif Nat.beq g f then true else hinted r f
def withH (fs : List Nat) (H : Hints) (F : FnEv) : FnEv := fun f args t n => bif hinted fs f then match hintE H f (args.map untE) with
    | some r => some (r, t, n)
    | none => F f args t n
  else F f args t n
def fnE (tab : Tab) (fs : List Nat) (H : Hints) (k : Nat) : Nat → FnEv
  | 0 => fun _ _ _ _ => none
  | d + 1 => fun f args t n => match tab.find f with
    | some (bc, rs, np, gc) => bif args.length == np then match codeE (withH fs H (fnE tab fs H k d)) k bc ⟨argEnv 0 args, t, n⟩ with
        | some (e, S) => match e with
          | .normal | .ret => match resE S.env S.t.den rs with
            | some vs => bif oneOrAll vs then some (collect gc n (mkRes vs) S.t S.n) else none
            | none => none
          | _ => none
        | none => none
      else none
    | none => none

/-! Soundness -/
section
variable {P : Program}

/-- What is computed for a function's call is what it comes to. -/
def FSound (P : Program) (F : FnEv) : Prop := ∀ f args t n r t' n', F f args t n = some (r, t', n') → fnOk P f = true ∧ Fn P f args t.den n (fun r2 h2 n2 => r2 = r ∧ h2 = t'.den ∧ n2 = n')

theorem stepE_ok {F : FnEv} (hF : FSound P F) {o : AOper} {S S' : SE} (H : stepE F o S = some S') {K : St → Prop} (hK : K S'.den) : stepA P o S.den K := by
  obtain ⟨dst, op, g, af⟩ := o
  unfold stepE at H
  simp only [callE_eq, forceV_eq, forceT_eq, forceN_eq, putS_eq, funEvE_eq] at H
  unfold stepA
  cases op
  case call f args =>
    simp only at H ⊢
    cases hn : (args.map (·.ev S.env)).all noTup with
    | false => rw [hn] at H; cases H
    | true =>
      rw [hn] at H
      simp only [cond_true] at H
      cases hr : F f (args.map (·.ev S.env)) S.t S.n with
      | none => rw [hr] at H; cases H
      | some x =>
        obtain ⟨r, t', n'⟩ := x
        rw [hr] at H
        cases H
        refine ⟨hn, (hF _ _ _ _ _ _ _ hr).2.mono fun r2 h2 n2 _ ⟨e1, e2, e3⟩ => ?_⟩
        subst e1; subst e2; subst e3
        exact hK
  case callv x args =>
    simp only at H ⊢
    cases hx : x.ev S.env with
    | c y =>
      have hx' : x.ev S.den.env = .c y := hx
      rw [hx] at H
      rw [hx']
      cases y <;> simp only at H ⊢ <;> (try (cases H; done))
      · rename_i f caps
        cases hn : (args.map (·.ev S.env)).all noTup with
        | false => rw [hn] at H; cases H
        | true =>
          rw [hn] at H
          simp only [cond_true] at H
          cases hn2 : (args.map (·.ev S.env) ++ caps.map AV.c).all noTup with
          | false => rw [hn2] at H; cases H
          | true =>
            rw [hn2] at H
            simp only [cond_true] at H
            cases hr : F f (args.map (·.ev S.env) ++ caps.map .c) S.t S.n with
            | none => rw [hr] at H; cases H
            | some x =>
              obtain ⟨r, t', n'⟩ := x
              rw [hr] at H
              cases H
              refine ⟨(hF _ _ _ _ _ _ _ hr).1, hn, (hF _ _ _ _ _ _ _ hr).2.mono fun r2 h2 n2 _ ⟨e1, e2, e3⟩ => ?_⟩
              subst e1; subst e2; subst e3
              exact hK
      · rename_i f caps
        cases hn : (args.map (·.ev S.env)).all noTup with
        | false => rw [hn] at H; cases H
        | true =>
          rw [hn] at H
          simp only [cond_true] at H
          cases hn2 : (caps.map AV.c ++ args.map (·.ev S.env)).all noTup with
          | false => rw [hn2] at H; cases H
          | true =>
            rw [hn2] at H
            simp only [cond_true] at H
            cases hr : F f (caps.map .c ++ args.map (·.ev S.env)) S.t S.n with
            | none => rw [hr] at H; cases H
            | some x =>
              obtain ⟨r, t', n'⟩ := x
              rw [hr] at H
              cases H
              refine ⟨(hF _ _ _ _ _ _ _ hr).1, hn, (hF _ _ _ _ _ _ _ hr).2.mono fun r2 h2 n2 _ ⟨e1, e2, e3⟩ => ?_⟩
              subst e1; subst e2; subst e3
              exact hK
    | _ => rw [hx] at H; cases H
  all_goals
    simp only at H ⊢
    split at H
    · rename_i v hv
      cases H
      obtain ⟨c, h1, h2⟩ := flE_ok hv
      have h1' : fl _ S.den.env S.den.h = some (c, v) := h1
      rw [h1']
      exact ⟨h2, hK⟩
    · split at H
      · rename_i v t' n' hv
        cases H
        first
          | (cases hv; done)
          | (obtain ⟨c, h1, h2⟩ := chE_ok hv
             have h1' : ch _ S.den.env S.den.h S.den.n = some (c, v, t'.den, n') := h1
             simp only [fl]
             rw [h1']
             exact ⟨h2, hK⟩)
      · cases H

theorem operE_ok {F : FnEv} (hF : FSound P F) {o : AOper} {S S' : SE} (H : operE F o S = some S') {K : St → Prop} (hK : K S'.den) : operA P o S.den K := by
  unfold operE at H
  simp only [getE_eq] at H
  unfold operA
  cases hg : o.guard with
  | none => rw [hg] at H; exact stepE_ok hF H hK
  | some g =>
    obtain ⟨t, want⟩ := g
    rw [hg] at H
    simp only at H ⊢
    have he : S.den.env = S.env := rfl
    rw [he]
    split at H
    · rename_i b hb
      rw [hb]
      cases hbw : (b == want) with
      | true =>
        rw [hbw] at H
        simp only [cond_true] at H
        have : b = want := by simpa using hbw
        refine ⟨fun _ => stepE_ok (S := ⟨(t, .c (.bool want)) :: S.env, S.t, S.n⟩) hF H hK, fun h => ?_⟩
        subst this; cases b <;> cases h
      | false =>
        rw [hbw] at H
        simp only [cond_false] at H
        have : ¬ b = want := by simpa using hbw
        cases H
        exact ⟨fun h => absurd h this, fun _ => hK⟩
    · rename_i hb
      rw [hb]
      cases H; exact hK
    · cases H

theorem regE_ok {F : FnEv} (hF : FSound P F) : ∀ {l : List AOper} {S S' : SE}, regE F l S = some S' → ∀ {K : St → Prop}, K S'.den → regA P l S.den K
  | [], S, S', H, K, hK => by cases H; exact hK
  | o :: r, S, S', H, K, hK => by
    simp only [regE] at H
    split at H
    · rename_i S1 h1
      exact operE_ok hF h1 (regE_ok hF H hK)
    · cases H

theorem floatE_ok {x : AOper} {S S' : SE} (H : floatE x S = some S') {K : St → Prop} (hK : K S'.den) : floatA x S.den K := by
  unfold floatE at H
  simp only [getE_eq, forceV_eq, putS_eq] at H
  unfold floatA
  have he : S.den.env = S.env := rfl
  have hh : S.den.h = S.t.den := rfl
  have hn : S.den.n = S.n := rfl
  cases hg : x.guard with
  | none =>
    rw [hg] at H
    simp only at H ⊢
    split at H
    · rename_i v hv
      cases H
      obtain ⟨c, h1, h2⟩ := flE_ok hv
      rw [he, hh, h1]
      exact ⟨h2, hK⟩
    · cases H
  | some g =>
    obtain ⟨t, want⟩ := g
    rw [hg] at H
    simp only at H ⊢
    rw [he, hh, hn]
    split at H
    · rename_i b hb
      rw [hb]
      cases hbw : (b == want) with
      | true =>
        rw [hbw] at H
        simp only [cond_true] at H
        have : b = want := by simpa using hbw
        refine ⟨fun _ => ?_, fun h => ?_⟩
        · split at H
          · rename_i v hv
            cases H
            obtain ⟨c, h1, h2⟩ := flE_ok hv
            rw [h1]
            exact ⟨h2, hK⟩
          · cases H
        · subst this; cases b <;> cases h
      | false =>
        rw [hbw] at H
        simp only [cond_false] at H
        have : ¬ b = want := by simpa using hbw
        cases H
        exact ⟨fun h => absurd h this, fun _ => hK⟩
    · rename_i hb
      rw [hb]
      cases H; exact hK
    · cases H

theorem flEB_ok {op : AOp} {e : Env} {h : Heap} {v : AV} (H : flEB op e h v = true) : match fl op e h with | some (c, u) => c ∧ u = v | none => False := by
  unfold flEB at H
  split at H
  · rename_i u hu
    obtain ⟨c, h1, h2⟩ := flE_ok hu
    rw [h1]
    exact ⟨h2, avB_eq _ _ H⟩
  · cases H
theorem flGE_ok {x : AOper} {e : Env} {h : Heap} {v : AV} (H : flGE x e h v = true) : flG x e h v := by
  unfold flGE at H
  unfold flG
  cases hg : x.guard with
  | none => rw [hg] at H; exact flEB_ok H
  | some g =>
    obtain ⟨t, want⟩ := g
    rw [hg] at H
    simp only at H ⊢
    split at H
    · rename_i b hb
      rw [hb]
      cases hbw : (b == want) with
      | true =>
        rw [hbw] at H
        simp only [cond_true] at H
        have : b = want := by simpa using hbw
        exact ⟨fun _ => flEB_ok H, fun h => by subst this; cases b <;> cases h⟩
      | false =>
        rw [hbw] at H
        simp only [cond_false] at H
        have : ¬ b = want := by simpa using hbw
        exact ⟨fun h => absurd h this, fun _ => avB_eq _ _ H⟩
    · rename_i hb
      rw [hb]
      exact avB_eq _ _ H
    · cases H
theorem stablesE_ok {xs : List AOper} {S : SE} : ∀ {l : List Nat}, stablesE xs S l = true → stables xs S.den l
  | [], _ => trivial
  | k :: r, H => by
    simp only [stablesE, Bool.and_eq_true] at H
    refine ⟨?_, stablesE_ok H.2⟩
    have h1 := H.1
    split at h1
    · rename_i x hx
      split at h1
      · rename_i d hd
        rw [hx]
        simp only [hd]
        exact flGE_ok h1
      · cases h1
    · cases h1

theorem planE_ok {F : FnEv} (hF : FSound P F) {xs : List AOper} {keep : List Nat} : ∀ {p : Plan} {S S' : SE}, planE F xs keep p S = some S' → ∀ {K : St → Prop}, K S'.den → regN P xs p S.den (fun S2 => K ⟨keepE keep S2.env, S2.h, S2.n⟩)
  | .done, S, S', H, K, hK => by simp only [planE, keepF_eq] at H; cases H; exact hK
  | .fl i r, S, S', H, K, hK => by
    simp only [planE] at H
    simp only [regN]
    split at H
    · rename_i x hx
      rw [hx]
      split at H
      · rename_i S1 h1
        exact floatE_ok (K := fun S' => regN P xs r S' fun S2 => K ⟨keepE keep S2.env, S2.h, S2.n⟩) h1 (planE_ok hF H hK)
      · cases H
    · cases H
  | .ch i chk r, S, S', H, K, hK => by
    simp only [planE] at H
    simp only [regN]
    split at H
    · rename_i x hx
      rw [hx]
      split at H
      · rename_i S1 h1
        cases hs : stablesE xs S1 chk with
        | false => rw [hs] at H; cases H
        | true =>
          rw [hs] at H
          exact operE_ok hF (K := fun S' => stables xs S' chk ∧ regN P xs r S' fun S2 => K ⟨keepE keep S2.env, S2.h, S2.n⟩) h1 ⟨stablesE_ok hs, planE_ok hF H hK⟩
      · cases H
    · cases H
  | .alt i c r j d s, S, S', H, K, hK => by
    simp only [planE] at H
    simp only [regN]
    split at H
    · rename_i x y hx hy
      rw [hx, hy]
      split at H
      · rename_i S1 S2 h1 h2
        cases hs : (stablesE xs S1 c && stablesE xs S2 d) with
        | false => rw [hs] at H; cases H
        | true =>
          rw [hs] at H
          simp only [cond_true] at H
          simp only [Bool.and_eq_true] at hs
          split at H
          · rename_i R1 R2 k1 k2
            cases he : seB R1 R2 with
            | false => rw [he] at H; cases H
            | true =>
              rw [he] at H
              cases H
              have := seB_eq he
              subst this
              exact ⟨operE_ok hF (K := fun S' => stables xs S' c ∧ regN P xs r S' fun S2 => K ⟨keepE keep S2.env, S2.h, S2.n⟩) h1 ⟨stablesE_ok hs.1, planE_ok hF k1 hK⟩,
                operE_ok hF (K := fun S' => stables xs S' d ∧ regN P xs s S' fun S2 => K ⟨keepE keep S2.env, S2.h, S2.n⟩) h2 ⟨stablesE_ok hs.2, planE_ok hF k2 hK⟩⟩
          · cases H
      · cases H
    · cases H

theorem wpA_mono : ∀ (ac : ACode) {S : St} {Q Q' : Exit → St → Prop}, (∀ e S', Q e S' → Q' e S') → wpA P ac S Q → wpA P ac S Q'
  | .skip, S, Q, Q', hQ, h => hQ _ _ h
  | .seq a b, S, Q, Q', hQ, h => by
    refine wpA_mono a (fun e S' h' => ?_) h
    cases e with
    | normal => exact wpA_mono b hQ h'
    | _ => exact hQ _ _ h'
  | .reg xs keep, S, Q, Q', hQ, h => regA_mono (fun S' h' => hQ _ _ h') h
  | .regd xs p keep, S, Q, Q', hQ, h => regN_mono (fun S' h' => hQ _ _ h') h
  | .cond c a b, S, Q, Q', hQ, h => by
    simp only [wpA] at h ⊢
    split at h
    · exact ⟨fun ht => wpA_mono a hQ (h.1 ht), fun ht => wpA_mono b hQ (h.2 ht)⟩
    · exact h.elim
  | .block id c, S, Q, Q', hQ, h => by
    refine wpA_mono c (fun e S' h' => ?_) h
    cases e with
    | exit id' =>
      simp only at h' ⊢
      split at h'
      · rw [if_pos (by assumption)]; exact hQ _ _ h'
      · rw [if_neg (by assumption)]; exact hQ _ _ h'
    | _ => exact hQ _ _ h'
  | .loop c, S, Q, Q', hQ, h => by
    obtain ⟨I, m, h1, h2⟩ := h
    refine ⟨I, m, h1, fun S' hS => wpA_mono c (fun e S'' h' => ?_) (h2 S' hS)⟩
    cases e with
    | normal => exact h'
    | _ => exact hQ _ _ h'
  | .exit id, S, Q, Q', hQ, h => hQ _ _ h
  | .ret, S, Q, Q', hQ, h => hQ _ _ h

theorem codeE_ok {F : FnEv} (hF : FSound P F) {k : Nat} : ∀ (bc : BCode) (S : SE) (e : Exit) (S' : SE), codeE F k bc S = some (e, S') → ∀ Q : Exit → St → Prop, Q e S'.den → wpA P bc.flat S.den Q := by
  intro bc
  induction bc with
  | skip => intro S e S' H Q hQ; cases H; exact hQ
  | seq a b iha ihb =>
    intro S e S' H Q hQ
    simp only [codeE] at H
    split at H
    · rename_i S1 h1
      exact iha _ _ _ h1 _ (ihb _ _ _ H Q hQ)
    · rename_i hne
      refine iha _ _ _ H _ ?_
      cases e with
      | normal => exact absurd H (hne S')
      | _ => exact hQ
  | reg xs keep =>
    intro S e S' H Q hQ
    simp only [codeE] at H
    split at H
    · rename_i S1 h1
      simp only [keepF_eq] at H
      cases H
      exact regE_ok hF h1 hQ
    · cases H
  | regd xs p keep =>
    intro S e S' H Q hQ
    simp only [codeE] at H
    split at H
    · rename_i S1 h1
      cases H
      exact planE_ok hF (K := fun S2 => Q .normal S2) h1 hQ
    · cases H
  | cond c a b iha ihb =>
    intro S e S' H Q hQ
    simp only [codeE, evE_eq] at H
    have he : S.den.env = S.env := rfl
    simp only [BCode.flat, wpA, he]
    split at H
    · rename_i hc
      rw [hc]
      exact ⟨fun _ => iha _ _ _ H Q hQ, (fun h => by cases h)⟩
    · rename_i hc
      rw [hc]
      exact ⟨(fun h => by cases h), fun _ => ihb _ _ _ H Q hQ⟩
    · cases H
  | block id c ih =>
    intro S e S' H Q hQ
    simp only [codeE] at H
    split at H
    · rename_i i S1 h1
      refine ih _ _ _ h1 _ ?_
      simp only
      cases hi : (i == id) with
      | true =>
        rw [hi] at H
        simp only [cond_true] at H
        cases H
        rw [if_pos (by simpa using hi)]
        exact hQ
      | false =>
        rw [hi] at H
        simp only [cond_false] at H
        cases H
        rw [if_neg (by simpa using hi)]
        exact hQ
    · rename_i hne
      refine ih _ _ _ H _ ?_
      cases e with
      | exit i => exact absurd H (hne i S')
      | _ => exact hQ
  | loop c ih =>
    intro S e S' H Q hQ
    simp only [codeE] at H
    let ex (S2 : St) (j : Nat) : Prop := ∃ T : SE, S2 = T.den ∧ loopE (codeE F k c) j T = some (e, S')
    refine ⟨fun S2 => ∃ j, ex S2 j, fun S2 => sInf_ (ex S2), ⟨k, S, rfl, H⟩, fun S2 hS2 => ?_⟩
    obtain ⟨T, rfl, hT⟩ := sInf_mem hS2
    generalize hj : sInf_ (ex T.den) = j at hT
    cases j with
    | zero => cases hT
    | succ j =>
      simp only [loopE] at hT
      split at hT
      · rename_i T1 h1
        refine ih _ _ _ h1 _ ⟨⟨j, T1, rfl, hT⟩, ?_⟩
        have := sInf_le (p := ex T1.den) ⟨T1, rfl, hT⟩
        show sInf_ (ex T1.den) < sInf_ (ex T.den)
        omega
      · rename_i hne
        refine ih _ _ _ hT _ ?_
        cases e with
        | normal => exact absurd hT (hne S')
        | _ => exact hQ
  | exit id => intro S e S' H Q hQ; cases H; exact hQ
  | ret => intro S e S' H Q hQ; cases H; exact hQ

theorem resE_ok {e : Env} {h : Heap} : ∀ {rs : List ARes} {vs : List AV}, resE e h rs = some vs → ∃ c, resV e h rs = some (c, vs) ∧ c
  | [], vs, H => by cases H; exact ⟨True, rfl, trivial⟩
  | .tmp t :: r, vs, H => by
    simp only [resE] at H
    split at H
    · rename_i l hl
      cases H
      obtain ⟨c, h1, h2⟩ := resE_ok hl
      simp only [resV, h1]
      exact ⟨c, rfl, h2⟩
    · cases H
  | .cell t ag sz :: r, vs, H => by
    simp only [resE] at H
    split at H
    · rename_i v l hv hl
      cases H
      obtain ⟨c, h1, h2⟩ := resE_ok hl
      obtain ⟨q, h3, h4⟩ := ldE_ok hv
      simp only [resV, h1, h3]
      exact ⟨_, rfl, h4, h2⟩
    · cases H

theorem Tab.find_ok : ∀ {tab : Tab}, TabOk P tab → ∀ {f : Nat} {bc : BCode} {rs : List ARes} {np : Nat} {gc : Bool}, tab.find f = some (bc, rs, np, gc) → (∃ fn, P.funcs[f]? = some fn ∧ bChk P f fn np bc rs = true) ∧ fnOk P f = true
  | .leaf, _, f, bc, rs, np, gc, H => by cases H
  | .node g bc' rs' np' gc' l r, hok, f, bc, rs, np, gc, H => by
    simp only [Tab.find] at H
    cases hg : Nat.beq f g with
    | true =>
      rw [hg] at H
      simp only [cond_true] at H
      cases H
      have : f = g := Nat.eq_of_beq_eq_true hg
      subst this
      exact hok.1
    | false =>
      rw [hg] at H
      simp only [cond_false] at H
      cases hl : Nat.blt f g with
      | true => rw [hl] at H; exact Tab.find_ok hok.2.1 H
      | false => rw [hl] at H; exact Tab.find_ok hok.2.2 H

theorem unTokC {G : Ghost} {x : AC} {v : Value} (hr : Rep G x v) : Rep G (untC x) v := by
  unfold untC
  split
  · rename_i sz es i
    obtain ⟨pl, h1, h2, h3, h4, h5, h6⟩ := hr
    subst h5
    rw [← h2] at h3 ⊢
    exact .inl ⟨_, _, _, rfl, h3, h6⟩
  · exact hr
theorem unTokL {G : Ghost} : ∀ {l : List AC} {vs : List Value}, F2 (Rep G) l vs → F2 (Rep G) (l.map untC) vs
  | _, _, .nil => .nil
  | _, _, .cons h r => .cons (unTokC h) (unTokL r)
theorem unTokE {G : Ghost} {x : AV} {v : Value} (h : RepE G x v) : RepE G (untE x) v := by
  cases x with
  | any => exact h
  | tup _ => exact h.elim
  | agg l => obtain ⟨vs, h1, h2⟩ := h; exact ⟨vs, h1, unTokL h2⟩
  | c x => exact unTokC (G := G) (x := x) (v := v) h
theorem unTok_weak (r : AV) : Weak r (unTok r) := by
  intro G v h
  cases r with
  | any => exact h
  | agg l => exact unTokE (x := .agg l) h
  | c x => exact unTokE (x := .c x) h
  | tup l =>
    obtain ⟨vs, h1, h2⟩ := h
    refine ⟨vs, h1, ?_⟩
    generalize vs.toList = us at h2
    clear h1
    induction h2 with
    | nil => exact .nil
    | cons p _ ih => exact .cons (unTokE p) ih

theorem allBelow_get {n : Nat} : ∀ {t : T}, allBelow n t = true → ∀ id ob, T.get t id = some ob → id < n ∧ belowO n ob = true
  | [], _, id, ob, h => by cases h
  | (k, o) :: r, hb, id, ob, h => by
    simp only [allBelow, Bool.and_eq_true] at hb
    rw [T.get_cons] at h
    split at h
    · rename_i hk
      cases h
      subst hk
      exact ⟨by simpa using hb.1.1, hb.1.2⟩
    · exact allBelow_get hb.2 id ob h
theorem dropGe_get {n : Nat} : ∀ {t : T} {id : Nat}, id < n → T.get (dropGe n t) id = T.get t id
  | [], id, _ => rfl
  | (k, o) :: r, id, hid => by
    simp only [dropGe]
    cases hk : Nat.blt k n with
    | true => rfl
    | false =>
      have : ¬ k < n := fun h => by
        have h2 : Nat.blt k n = true := by rw [Nat.blt_eq]; exact h
        rw [h2] at hk; cases hk
      simp only [cond_false]
      rw [dropGe_get hid, T.get_cons, if_neg (by omega)]

/-- Every known outcome is what the call comes to. -/
def HintsOk (P : Program) : Hints → Prop
  | [] => True
  | (g, as, r) :: H => (fnOk P g = true ∧ ∀ (h : Heap) (n : Nat), Fn P g as h n (fun r2 h2 n2 => r2 = r ∧ h2 = h ∧ n2 = n)) ∧ HintsOk P H
theorem hintE_ok {H : Hints} (hok : HintsOk P H) {f : Nat} {args : List AV} {r : AV} (hh : hintE H f args = some r) : fnOk P f = true ∧ ∀ (h : Heap) (n : Nat), Fn P f args h n (fun r2 h2 n2 => r2 = r ∧ h2 = h ∧ n2 = n) := by
  induction H with
  | nil => cases hh
  | cons x H ih =>
    obtain ⟨g, as, r'⟩ := x
    simp only [hintE] at hh
    cases hc : (Nat.beq g f && avLB as args) with
    | false => rw [hc] at hh; exact ih hok.2 hh
    | true =>
      rw [hc] at hh
      cases hh
      simp only [Bool.and_eq_true] at hc
      have e1 := Nat.eq_of_beq_eq_true hc.1
      have e2 := avLB_eq _ _ hc.2
      subst e1; subst e2
      exact hok.1
theorem Fn_args {f : Nat} {args : List AV} {h : Heap} {n : Nat} {K : AV → Heap → Nat → Prop} (hF : Fn P f (args.map untE) h n K) : Fn P f args h n K := by
  intro G vs w hargs hi hf
  refine hF G vs w ?_ hi hf
  clear hF
  induction hargs with
  | nil => exact .nil
  | cons p _ ih => exact .cons (unTokE p) ih
theorem withH_ok {fs : List Nat} {H : Hints} (hok : HintsOk P H) {F : FnEv} (hF : FSound P F) : FSound P (withH fs H F) := by
  intro f args t n r t' n' h
  unfold withH at h
  cases hs : hinted fs f with
  | false => rw [hs] at h; exact hF _ _ _ _ _ _ _ h
  | true =>
    rw [hs] at h
    simp only [cond_true] at h
    split at h
    · rename_i r' hr
      cases h
      obtain ⟨h1, h2⟩ := hintE_ok hok hr
      exact ⟨h1, Fn_args (h2 _ _)⟩
    · exact hF _ _ _ _ _ _ _ h

theorem fnE_ok {tab : Tab} (ht : TabOk P tab) {fs : List Nat} {H : Hints} (hok : HintsOk P H) {k : Nat} : ∀ d, FSound P (fnE tab fs H k d)
  | 0 => fun f args t n r t' n' H => by cases H
  | d + 1 => fun f args t n r t' n' H => by
    simp only [fnE] at H
    split at H
    · rename_i bc rs np gc hfd
      obtain ⟨⟨fn, h1, h2⟩, h3⟩ := Tab.find_ok ht hfd
      cases hnp : (args.length == np) with
      | false => rw [hnp] at H; cases H
      | true =>
        rw [hnp] at H
        simp only [cond_true] at H
        simp only [bChk, Bool.and_eq_true] at h2
        split at H
        · rename_i e S hcode
          have key : (match resE S.env S.t.den rs with | some vs => bif oneOrAll vs then some (collect gc n (mkRes vs) S.t S.n) else none | none => none) = some (r, t', n') →
              (match e with | .normal | .ret => True | _ => False) → Fn P f args t.den n (fun r2 h2 n2 => r2 = r ∧ h2 = t'.den ∧ n2 = n') := by
            intro H he
            split at H
            · rename_i vs hvs
              cases ho : oneOrAll vs with
              | false => rw [ho] at H; cases H
              | true =>
                rw [ho] at H
                simp only [cond_true, Option.some.injEq] at H
                obtain ⟨c, h4, h5⟩ := resE_ok hvs
                have h4' : resV S.den.env S.den.h rs = some (c, vs) := h4
                have fin : ∀ K : AV → Heap → Nat → Prop, K (mkRes vs) S.t.den S.n → finA rs K S.den := fun K hK => by
                  unfold finA
                  rw [h4']
                  refine ⟨h5, ?_, _, _, Weak.refl _, Sub.rfl' _, hK⟩
                  unfold oneOrAll at ho
                  split at ho
                  · exact .inl rfl
                  · exact .inr ho
                have plain : Fn P f args t.den n (fun r2 h2 n2 => r2 = mkRes vs ∧ h2 = S.t.den ∧ n2 = S.n) := by
                  refine fn_intro h1 h2.2 (by simpa using hnp) (codeE_ok (withH_ok hok (fnE_ok ht hok d)) bc ⟨argEnv 0 args, t, n⟩ e S hcode _ ?_)
                  cases e with
                  | normal => exact fin _ ⟨rfl, rfl, rfl⟩
                  | ret => exact fin _ ⟨rfl, rfl, rfl⟩
                  | _ => exact he.elim
                simp only [collect] at H
                have hw : Weak (mkRes vs) (bif gc then unTok (mkRes vs) else mkRes vs) := by
                  cases gc
                  · exact Weak.refl _
                  · exact unTok_weak _
                generalize (bif gc then unTok (mkRes vs) else mkRes vs) = u at H hw
                cases hc : (Nat.blt n S.n && belowV n u && allBelow n (dropGe n S.t)) with
                | false => rw [hc] at H; cases H; exact plain
                | true =>
                  rw [hc] at H
                  cases H
                  simp only [Bool.and_eq_true] at hc
                  refine Fn_drop plain fun r2 h' n2 _ ⟨q1, q2, q3⟩ => ⟨_, (dropGe n S.t).den, by rw [q1]; exact hw, ?_, hc.1.2, fun id ob hid => allBelow_get hc.2 id ob hid, rfl, rfl, rfl⟩
                  rw [q2]
                  intro id ob hid
                  have hlt := (allBelow_get hc.2 id ob hid).1
                  have : T.get (dropGe n S.t) id = some ob := hid
                  rw [dropGe_get hlt] at this
                  exact this
            · cases H
          refine ⟨h3, ?_⟩
          cases e with
          | normal => exact key H trivial
          | ret => exact key H trivial
          | _ => cases H
        · cases H
    · cases H

/-- A value that hangs on no memory. -/
def plainC : AC → Bool
  | .int .. | .bool _ | .str _ | .nilp | .nilmap | .nilfn => true
  | .sl _ [] .nil => true
  | _ => false
def plainV : AV → Bool
  | .c x => plainC x
  | .agg l => l.all plainC
  | .tup l => l.all fun v => match v with | .c x => plainC x | .agg l => l.all plainC | _ => false
  | .any => false
theorem plainC_rep {G G' : Ghost} {x : AC} (h : plainC x = true) {v : Value} (hr : Rep G x v) : Rep G' x v := by
  cases x <;> simp only [plainC] at h <;> first | exact hr | (cases h; done) | skip
  rename_i z es c
  cases es <;> cases c <;> first | exact hr | (cases h; done)
theorem plainL_rep {G G' : Ghost} {l : List AC} {vs : List Value} (h : l.all plainC = true) (hr : F2 (Rep G) l vs) : F2 (Rep G') l vs := by
  induction hr with
  | nil => exact .nil
  | cons p _ ih =>
    simp only [List.all_cons, Bool.and_eq_true] at h
    exact .cons (plainC_rep h.1 p) (ih h.2)
theorem plainE_rep {G G' : Ghost} {x : AV} (h : plainV x = true) {v : Value} (hr : RepE G x v) : RepE G' x v := by
  cases x with
  | any => cases h
  | c x => exact plainC_rep h hr
  | agg l => obtain ⟨vs, rfl, h2⟩ := hr; exact ⟨vs, rfl, plainL_rep h h2⟩
  | tup _ => exact hr.elim
theorem plainV_rep {G G' : Ghost} {x : AV} (h : plainV x = true) {v : Value} (hr : RepV G x v) : RepV G' x v := by
  cases x with
  | any => cases h
  | c x => exact plainC_rep h hr
  | agg l => obtain ⟨vs, rfl, h2⟩ := hr; exact ⟨vs, rfl, plainL_rep h h2⟩
  | tup l =>
    obtain ⟨vs, rfl, h2⟩ := hr
    refine ⟨vs, rfl, ?_⟩
    simp only [plainV] at h
    generalize vs.toList = us at h2 ⊢
    induction h2 with
    | nil => exact .nil
    | cons p _ ih =>
      rename_i a b l m _
      simp only [List.all_cons, Bool.and_eq_true] at h
      refine .cons ?_ (ih h.2)
      have h1 := h.1
      cases a with
      | any => cases h1
      | tup _ => cases h1
      | c x => exact plainE_rep (x := .c x) h1 p
      | agg l => exact plainE_rep (x := .agg l) h1 p

/-- A closed call: wherever it stands, it comes to what was computed, and turns nothing. -/
theorem closed_call {tab : Tab} (ht : TabOk P tab) {fs : List Nat} {H0 : Hints} (hok : HintsOk P H0) {k d f : Nat} {args : List AV} {r : AV} {t' : T} {n' : Nat} (ha : belowVL 0 args = true) (hr : plainV r = true) (H : fnE tab fs H0 k d f args [] 0 = some (r, t', n')) :
    fnOk P f = true ∧ ∀ (h : Heap) (n : Nat), Fn P f args h n (fun r2 h2 n2 => r2 = r ∧ h2 = h ∧ n2 = n) := by
  refine ⟨(fnE_ok ht hok d _ _ _ _ _ _ _ H).1, fun h n => ?_⟩
  intro G vs w hargs hi hf
  have i0 : Inv (G.cut 0) (T.den []) w := inv_cut (hi.sub (fun id ob h => by cases h)) (fun id ob h => by cases h)
  have f0 : Fresh (G.cut 0) (T.den []) 0 := fun id _ => ⟨rfl, by simp [Ghost.cut]⟩
  have a0 : F2 (RepE (G.cut 0)) args vs := by
    clear H
    induction hargs with
    | nil => exact .nil
    | cons p _ ih =>
      rw [belowVL, Bool.and_eq_true] at ha
      exact .cons (repE_cut p ha.1) (ih ha.2)
  refine ((fnE_ok ht hok d _ _ _ _ _ _ _ H).2 (G.cut 0) vs w a0 i0 f0).mono fun e w' ⟨cv, r2, h2, n2, G', e1, ⟨e2, e3, e4⟩, e5, e6, e7⟩ => ?_
  subst e2
  have hs : Same w w' := ⟨e7.os, e7.tape, e7.output, e7.size, fun b hb => e7.keep b hb fun ⟨id, pl, k1, k2, k3⟩ => by simp [Ghost.cut] at k2⟩
  exact ⟨cv, r2, h, n, G, e1, ⟨rfl, rfl, rfl⟩, plainV_rep hr e5, hi.same hs, Ext.of_same (.refl G) rfl hs hf⟩

/-- The outcome of a closed call, checked. -/
def gives (r : AV) (o : Option (AV × T × Nat)) : Bool := match o with
  | some (r', _, _) => avB r r'
  | none => false
theorem closed_gives {tab : Tab} (ht : TabOk P tab) {fs : List Nat} {H0 : Hints} (hok : HintsOk P H0) (k d f : Nat) (args : List AV) (r : AV) (ha : belowVL 0 args = true) (hr : plainV r = true) (H : gives r (fnE tab fs H0 k d f args [] 0) = true) :
    fnOk P f = true ∧ ∀ (h : Heap) (n : Nat), Fn P f args h n (fun r2 h2 n2 => r2 = r ∧ h2 = h ∧ n2 = n) := by
  unfold gives at H
  split at H
  · rename_i r' t' n' hq
    have := avB_eq _ _ H
    subst this
    exact closed_call ht hok ha hr hq
  · cases H

end
end Go.Ab
