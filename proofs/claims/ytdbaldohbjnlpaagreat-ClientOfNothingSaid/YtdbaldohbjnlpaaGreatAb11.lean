/- Regions of fixed order. -/
import Derived.Test.YtdbaldohbjnlpaaGreatAb10
import Derived.Tactics
set_option linter.unusedVariables false
set_option linter.unusedSimpArgs false
namespace Go.Ab

structure St where
  env : Env
  h : Heap
  n : Nat

structure AOper where
  dst : Option Nat
  op : AOp
  guard : Option (Nat × Bool) := none
  after : List Nat := []

abbrev Oo (d : Nat) (x : AOp) : AOper := ⟨some d, x, none, []⟩
abbrev On (x : AOp) : AOper := ⟨none, x, none, []⟩
abbrev Og (d : Nat) (x : AOp) (t : Nat) (b : Bool) : AOper := ⟨some d, x, some (t, b), []⟩

def putE (e : Env) : Option Nat → AV → Env
  | none, _ => e
  | some d, v => (d, v) :: e

def noTup : AV → Bool
  | .tup _ => false
  | _ => true

/-- One operation, carried out. -/
def stepA (P : Program) (o : AOper) (S : St) (K : St → Prop) : Prop :=
  match o.op with
  | .call f args => (args.map (·.ev S.env)).all noTup = true ∧ Fn P f (args.map (·.ev S.env)) S.h S.n (fun r h' n' => K ⟨putE S.env o.dst r, h', n'⟩)
  | .callv x args => match x.ev S.env with
    | .c (.fn f caps) => fnOk P f = true ∧ (args.map (·.ev S.env)).all noTup = true ∧ Fn P f (args.map (·.ev S.env) ++ caps.map .c) S.h S.n (fun r h' n' => K ⟨putE S.env o.dst r, h', n'⟩)
    | .c (.bfn f caps) => fnOk P f = true ∧ (args.map (·.ev S.env)).all noTup = true ∧ Fn P f (caps.map .c ++ args.map (·.ev S.env)) S.h S.n (fun r h' n' => K ⟨putE S.env o.dst r, h', n'⟩)
    | _ => False
  | op => match fl op S.env S.h with
    | some (c, v) => c ∧ K ⟨putE S.env o.dst v, S.h, S.n⟩
    | none => match ch op S.env S.h S.n with
      | some (c, v, h', n') => c ∧ K ⟨putE S.env o.dst v, h', n'⟩
      | none => False

/-- One operation of a region: carried out, or passed over. -/
def operA (P : Program) (o : AOper) (S : St) (K : St → Prop) : Prop :=
  match o.guard with
  | none => stepA P o S K
  | some (t, want) => match get S.env t with
    | .c (.bool b) => (b = want → stepA P o ⟨(t, .c (.bool want)) :: S.env, S.h, S.n⟩ K) ∧ (b = !want → K ⟨putE ((t, .c (.bool !want)) :: S.env) o.dst (.tup []), S.h, S.n⟩)
    | .tup [] => K ⟨putE S.env o.dst (.tup []), S.h, S.n⟩
    | _ => False

def regA (P : Program) : List AOper → St → (St → Prop) → Prop
  | [], S, K => K S
  | o :: r, S, K => operA P o S (fun S' => regA P r S' K)

def keepE (l : List Nat) (e : Env) : Env := l.map fun t => (t, get e t)

def dstOk (nt : Nat) (o : Oper) (x : AOper) : Bool := o.dst == x.dst && (match x.dst with | some d => decide (d < nt) | none => true)
def guardOk (ops : Array Oper) (o : Oper) (x : AOper) : Bool :=
  match o.guard, x.guard with
  | none, none => true
  | some (j, want), some (t, want') => want == want' && (match ops[j]? with | some g => g.dst == some t | none => false)
  | _, _ => false
def operOk (P : Program) (nt : Nat) (ops : Array Oper) (o : Oper) (x : AOper) : Bool := dstOk nt o x && guardOk ops o x && opOk P x.op o.op

def opersOk (P : Program) (nt : Nat) (ops : Array Oper) : List Oper → List AOper → Bool
  | [], [] => true
  | o :: r, x :: r' => operOk P nt ops o x && opersOk P nt ops r r'
  | _, _ => false

theorem stepA_mono {P : Program} {o : AOper} {S : St} {K K' : St → Prop} (hK : ∀ S', K S' → K' S') (h : stepA P o S K) : stepA P o S K' := by
  obtain ⟨dst, op, guard, after⟩ := o
  unfold stepA at h ⊢
  cases op
  case call f args => exact ⟨h.1, h.2.mono fun r h' n' _ hk => hK _ hk⟩
  case callv x args =>
    simp only at h ⊢
    split at h
    · exact ⟨h.1, h.2.1, h.2.2.mono fun r h' n' _ hk => hK _ hk⟩
    · exact ⟨h.1, h.2.1, h.2.2.mono fun r h' n' _ hk => hK _ hk⟩
    · exact h.elim
  all_goals
    simp only at h ⊢
    split
    · rename_i c v hv; rw [hv] at h; exact ⟨h.1, hK _ h.2⟩
    · rename_i hv
      rw [hv] at h
      simp only at h
      split
      · rename_i c v h' n' hv'; rw [hv'] at h; exact ⟨h.1, hK _ h.2⟩
      · rename_i hv'; rw [hv'] at h; exact h.elim

section
variable {P : Program} {G : Ghost} {w : World} {nt : Nat} {a : Act} {S : St}

theorem EnvRep.put {env : Env} (he : EnvRep G nt env a) {o : Oper} {x : AOper} (hd : dstOk nt o x = true) {v : AV} {cv : Value} (hv : RepV G v cv) : EnvRep G nt (putE env x.dst v) (a.put o.dst cv) := by
  simp only [dstOk, Bool.and_eq_true, beq_iff_eq] at hd
  obtain ⟨h1, h2⟩ := hd
  rw [h1]
  cases hx : x.dst with
  | none => exact he
  | some d =>
    rw [hx] at h2
    simp only [decide_eq_true_eq] at h2
    refine ⟨by simp [Act.put, he.size], he.defers, fun t => ?_⟩
    simp only [putE, get, Act.put]
    by_cases htd : d = t
    · subst htd
      have : d < a.tmps.size := by rw [he.size]; exact h2
      simp [this, hv]
    · have h3 : (d == t) = false := by simpa using htd
      rw [h3]
      have := he.at_ t
      simpa [Array.getElem?_setIfInBounds_ne htd] using this

theorem EnvRep.mono {G' : Ghost} (hG : G.Le G') {env : Env} (he : EnvRep G nt env a) : EnvRep G' nt env a := ⟨he.size, he.defers, fun t => (he.at_ t).mono hG⟩

theorem EnvRep.known {env : Env} (he : EnvRep G nt env a) {t : Nat} {v : AV} (hv : RepV G v (a.tmps.getD t undef)) : EnvRep G nt ((t, v) :: env) a :=
  ⟨he.size, he.defers, fun s => by
    simp only [get]
    cases hts : (t == s) with
    | true => simp at hts; subst hts; exact hv
    | false => exact he.at_ s⟩

theorem EnvRep.keep {env : Env} (he : EnvRep G nt env a) (l : List Nat) : EnvRep G nt (keepE l env) a := by
  refine ⟨he.size, he.defers, fun t => ?_⟩
  have : get (keepE l env) t = get env t ∨ get (keepE l env) t = .any := by
    unfold keepE
    induction l with
    | nil => exact .inr rfl
    | cons s l ih =>
      simp only [List.map_cons, get]
      cases hs : (s == t) with
      | true => simp at hs; subst hs; exact .inl rfl
      | false => exact ih
  rcases this with h | h
  · rw [h]; exact he.at_ t
  · rw [h]; trivial

theorem opds_rep {env : Env} (he : EnvRep G nt env a) : ∀ (xs : List Operand) (ys : List Opd), opdsOk xs ys = true → (ys.map (·.ev env)).all noTup = true → F2 (RepE G) (ys.map (·.ev env)) (xs.map a.eval)
  | [], [], _, _ => .nil
  | x :: xs, y :: ys, h, hn => by
    simp only [opdsOk, Bool.and_eq_true] at h
    simp only [List.map_cons, List.all_cons, Bool.and_eq_true] at hn
    refine .cons ?_ (opds_rep he xs ys h.2 hn.2)
    show RepE G (y.ev env) (a.eval x)
    have h1 := opd_rep he h.1
    have h2 := hn.1
    generalize y.ev env = v at h1 h2
    cases v with
    | tup _ => cases h2
    | any => trivial
    | c _ => exact h1
    | agg _ => exact h1
  | [], _ :: _, h, _ => by simp [opdsOk] at h
  | _ :: _, [], h, _ => by simp [opdsOk] at h

/-- What stands behind an operation. -/
def After (P : Program) (nt : Nat) (G : Ghost) (S : St) (w : World) (K : St → Prop) (a' : Act) (w' : World) : Prop :=
  ∃ S' G', K S' ∧ EnvRep G' nt S'.env a' ∧ Inv G' S'.h w' ∧ Ext G S.h S.n w G' S'.h S'.n w'

theorem callv_run {env : Env} (he : EnvRep G nt env a) {x : Opd} {args : List Opd} {op : Op} (hk : opOk P (.callv x args) op = true) {f : Nat} {caps : List AC} (hx : x.ev env = .c (.fn f caps)) (hfn : fnOk P f = true) (oo : Oper) (ho : oo.op = op) :
    ∃ (xs : List Operand) (ev : True) (vs : Array Value), opdsOk xs args = true ∧ ((caps = [] ∧ vs = #[]) ∨ G.cap f vs caps) ∧ (execOp a.eval oo).run P w = .ok (.enter f (xs.map a.eval ++ vs.toList).toArray) w := by
  simp only [opOk] at hk
  split at hk
  · rename_i c
    split at hk
    · rename_i t hcal
      simp only [Bool.and_eq_true] at hk
      obtain ⟨k1, k2⟩ := hk
      obtain ⟨vs, h1, h2⟩ := opd_cell he k1 hx
      obtain ⟨fn, h3, h4, h5⟩ := fnOk_some hfn
      have hargs : c.args.map a.eval = (c.args.toList.map a.eval).toArray := by apply Array.ext'; simp
      obtain ⟨b, hb⟩ := Option.isSome_iff_exists.1 h4
      have hne : fn.body.isNone = false := by rw [hb]; rfl
      refine ⟨c.args.toList, trivial, vs, k2, h2, ?_⟩
      unfold execOp
      rw [ho]
      simp only [resolve, hcal, h1, Deferred.ofValue, Sem.run_bind, Sem.run_pure, Result.andThen_ok, invoke, callFunc, run_program, h3, h5, hne, Bool.false_eq_true, if_false, Array.empty_append]
      rw [hargs]
      congr 2
      apply Array.ext'
      simp
    · cases hk
  · cases hk

theorem callvb_run {env : Env} (he : EnvRep G nt env a) {x : Opd} {args : List Opd} {op : Op} (hk : opOk P (.callv x args) op = true) {f : Nat} {caps : List AC} (hx : x.ev env = .c (.bfn f caps)) (hfn : fnOk P f = true) (oo : Oper) (ho : oo.op = op) :
    ∃ (xs : List Operand) (ev : True) (vs : Array Value), opdsOk xs args = true ∧ G.cap f vs caps ∧ (execOp a.eval oo).run P w = .ok (.enter f (vs.toList ++ xs.map a.eval).toArray) w := by
  simp only [opOk] at hk
  split at hk
  · rename_i c
    split at hk
    · rename_i t hcal
      simp only [Bool.and_eq_true] at hk
      obtain ⟨k1, k2⟩ := hk
      obtain ⟨vs, h1, h2⟩ := opd_cell he k1 hx
      obtain ⟨fn, h3, h4, h5⟩ := fnOk_some hfn
      have hargs : c.args.map a.eval = (c.args.toList.map a.eval).toArray := by apply Array.ext'; simp
      obtain ⟨b, hb⟩ := Option.isSome_iff_exists.1 h4
      have hne : fn.body.isNone = false := by rw [hb]; rfl
      refine ⟨c.args.toList, trivial, vs, k2, h2, ?_⟩
      unfold execOp
      rw [ho]
      simp only [resolve, hcal, h1, Deferred.ofValue, Sem.run_bind, Sem.run_pure, Result.andThen_ok, invoke, callFunc, run_program, h3, h5, hne, Bool.false_eq_true, if_false, Array.empty_append]
      rw [hargs]
      congr 2
      apply Array.ext'
      simp
    · cases hk
  · cases hk

theorem stepA_sound {Q : Exit → Act → World → Prop} {next : Act → World → Prop} {o : Oper} {x : AOper} (hd : dstOk nt o x = true) (hk : opOk P x.op o.op = true) (he : EnvRep G nt S.env a) (hi : Inv G S.h w) (hf : Fresh G S.h S.n) {K : St → Prop} (hs : stepA P x S K)
    (hnext : ∀ a' w', After P nt G S w K a' w' → next a' w') : o.wp P a w next Q := by
  obtain ⟨dst, op, guard, after⟩ := x
  simp only at hk
  unfold stepA at hs
  cases op
  case call f args =>
    simp only at hs
    obtain ⟨hn, hF⟩ := hs
    obtain ⟨xs, h1, h2⟩ := call_run (P := P) (w := w) hk a o rfl
    unfold Oper.wp
    rw [h2]
    simp only [Oper.upon]
    refine (hF G _ w (opds_rep he xs args h1 hn) hi hf).mono fun e w' h => ?_
    obtain ⟨cv, r, h', n', G', rfl, e2, e3, e4, e5⟩ := h
    exact hnext _ _ ⟨_, G', e2, (he.mono e5.le).put hd e3, e4, e5⟩
  case callv x args =>
    simp only at hs
    split at hs
    · rename_i f caps hx
      obtain ⟨hfn, hn, hF⟩ := hs
      obtain ⟨xs, ev, vs, h1, h2, h3⟩ := callv_run (P := P) (w := w) he hk hx hfn o rfl
      unfold Oper.wp
      rw [h3]
      simp only [Oper.upon]
      have hcap : F2 (Rep G) caps vs.toList := by
        rcases h2 with ⟨rfl, rfl⟩ | h2
        · exact .nil
        · exact hi.cap _ _ _ h2
      have hargs : F2 (RepE G) (args.map (·.ev S.env) ++ caps.map .c) (xs.map a.eval ++ vs.toList) := by
        refine (opds_rep he xs args h1 hn).append ?_
        clear h3 hF h2 hx
        generalize vs.toList = l at hcap
        induction hcap with
        | nil => exact .nil
        | cons p _ ih => exact .cons p ih
      refine (hF G _ w hargs hi hf).mono fun e w' h => ?_
      obtain ⟨cv, r, h', n', G', rfl, e2, e3, e4, e5⟩ := h
      exact hnext _ _ ⟨_, G', e2, (he.mono e5.le).put hd e3, e4, e5⟩
    · rename_i f caps hx
      obtain ⟨hfn, hn, hF⟩ := hs
      obtain ⟨xs, ev, vs, h1, h2, h3⟩ := callvb_run (P := P) (w := w) he hk hx hfn o rfl
      unfold Oper.wp
      rw [h3]
      simp only [Oper.upon]
      have hcap : F2 (Rep G) caps vs.toList := by
        exact hi.cap _ _ _ h2
      have hargs : F2 (RepE G) (caps.map .c ++ args.map (·.ev S.env)) (vs.toList ++ xs.map a.eval) := by
        refine F2.append ?_ (opds_rep he xs args h1 hn)
        clear h3 hF h2 hx
        generalize vs.toList = l at hcap
        induction hcap with
        | nil => exact .nil
        | cons p _ ih => exact .cons p ih
      refine (hF G _ w hargs hi hf).mono fun e w' h => ?_
      obtain ⟨cv, r, h', n', G', rfl, e2, e3, e4, e5⟩ := h
      exact hnext _ _ ⟨_, G', e2, (he.mono e5.le).put hd e3, e4, e5⟩
    · exact hs.elim
  all_goals
    simp only at hs
    split at hs
    · rename_i c v hv
      obtain ⟨hc, hK⟩ := hs
      have key : ∃ cv w' G', (execOp a.eval o).run P w = .ok (.value cv) w' ∧ RepV G' v cv ∧ Inv G' S.h w' ∧ G.Le G' ∧ G'.obj = G.obj ∧ Same w w' := by
        first
          | (obtain ⟨cv, h1, h2⟩ := fl_run (P := P) (w := w) rfl hi he hk hv hc
             exact ⟨cv, w, G, h1, h2, hi, .refl G, rfl, Same.refl w⟩)
          | exact make_run rfl hi he hk hv hc
      obtain ⟨cv, w', G', h1, h2, h3, h4, h5, h6⟩ := key
      unfold Oper.wp
      rw [h1]
      exact hnext _ _ ⟨_, G', hK, (he.mono h4).put hd h2, h3, Ext.of_same h4 h5 h6 hf⟩
    · split at hs
      · rename_i c v h' n' hv
        obtain ⟨hc, hK⟩ := hs
        obtain ⟨nx, cv, w', G', h1, h2, h3, h4, h5⟩ := ch_run (P := P) hi hf he hk hv hc
        unfold Oper.wp
        rw [h1]
        cases nx <;> simp only [Ends] at h2 <;> subst h2
        · exact hnext _ _ ⟨_, G', hK, (he.mono h5.le).put hd h3, h4, h5⟩
        · exact hnext _ _ ⟨_, G', hK, (he.mono h5.le).put hd h3, h4, h5⟩
      · exact hs.elim

theorem yielded_eq {ops : Array Oper} {j t : Nat} {g : Oper} (hg : ops[j]? = some g) (ht : g.dst = some t) (hsz : t < a.tmps.size) : yielded ops a.tmps j = match a.tmps.getD t undef with | .bool b => some b | _ => none := by
  unfold yielded
  simp only [hg, Option.bind_some, ht]
  have : a.tmps[t]? = some (a.tmps.getD t undef) := by simp [hsz]
  rw [this]
  generalize a.tmps.getD t undef = v
  cases v <;> rfl

theorem wanted_eq {env : Env} (he : EnvRep G nt env a) {ops : Array Oper} {o : Oper} {x : AOper} (hg : guardOk ops o x = true) :
    match x.guard with
    | none => Region.wanted o (yielded ops a.tmps) = true
    | some (t, want) => match get env t with
      | .c (.bool b) => Region.wanted o (yielded ops a.tmps) = (b == want) ∧ a.tmps.getD t undef = .bool b
      | .tup [] => Region.wanted o (yielded ops a.tmps) = false
      | _ => True := by
  unfold guardOk at hg
  split at hg
  · rename_i h1 h2
    rw [h2]
    simp [Region.wanted, h1]
  · rename_i j want t want' h1 h2
    rw [h2]
    simp only [Bool.and_eq_true, beq_iff_eq] at hg
    obtain ⟨rfl, hg⟩ := hg
    split at hg
    · rename_i g hgj
      simp at hg
      have hrep := he.at_ t
      simp only [Region.wanted, h1]
      -- whether the slot is there
      have hy : yielded ops a.tmps j = match a.tmps.getD t undef with | .bool b => some b | _ => none := by
        by_cases hsz : t < a.tmps.size
        · exact yielded_eq hgj hg hsz
        · unfold yielded
          simp only [hgj, Option.bind_some, hg]
          have : a.tmps[t]? = none := by simp; omega
          rw [this]
          simp [undef, hsz]
      split
      · rename_i b hb
        rw [hb] at hrep
        have h3 : a.tmps.getD t undef = .bool b := hrep
        rw [hy, h3]
        refine ⟨?_, rfl⟩
        cases b <;> cases want <;> rfl
      · rename_i hb
        rw [hb] at hrep
        obtain ⟨vs, h3, h4⟩ := hrep
        rw [hy, h3]
        rfl
      · trivial
    · cases hg
  · cases hg

theorem operA_sound {Q : Exit → Act → World → Prop} {next : Act → World → Prop} {ops : Array Oper} {o : Oper} {x : AOper} (hk : operOk P nt ops o x = true) (he : EnvRep G nt S.env a) (hi : Inv G S.h w) (hf : Fresh G S.h S.n) {K : St → Prop} (hs : operA P x S K)
    (hnext : ∀ a' w', After P nt G S w K a' w' → next a' w') :
    if Region.wanted o (yielded ops a.tmps) then o.wp P a w next Q else next (a.put o.dst undef) w := by
  simp only [operOk, Bool.and_eq_true] at hk
  obtain ⟨⟨hd, hg⟩, hk⟩ := hk
  have hw := wanted_eq he hg
  have hun : RepV G (.tup []) undef := ⟨#[], rfl, .nil⟩
  unfold operA at hs
  cases hgd : x.guard with
  | none =>
    rw [hgd] at hs hw
    simp only at hs hw
    rw [if_pos hw]
    exact stepA_sound hd hk he hi hf hs hnext
  | some g =>
    obtain ⟨t, want⟩ := g
    rw [hgd] at hs hw
    simp only at hs hw
    split at hs
    · rename_i b hb
      rw [hb] at hw
      simp only at hw
      obtain ⟨h1, h2⟩ := hw
      rw [h1]
      by_cases hbw : b = want
      · subst hbw
        simp only [beq_self_eq_true, if_true]
        have he' : EnvRep G nt ((t, .c (.bool b)) :: S.env) a := he.known (by rw [h2]; rfl)
        exact stepA_sound (S := ⟨(t, .c (.bool b)) :: S.env, S.h, S.n⟩) hd hk he' hi hf (hs.1 rfl) hnext
      · have hb' : b = !want := by cases b <;> cases want <;> simp_all
        have h3 : (b == want) = false := by simpa using hbw
        rw [h3]
        simp only [Bool.false_eq_true, if_false]
        have he' : EnvRep G nt ((t, .c (.bool !want)) :: S.env) a := he.known (by rw [h2, hb']; rfl)
        exact hnext _ _ ⟨_, G, hs.2 hb', he'.put hd hun, hi, Ext.refl w hf⟩
    · rename_i hb
      rw [hb] at hw
      simp only at hw
      rw [hw]
      simp only [Bool.false_eq_true, if_false]
      exact hnext _ _ ⟨_, G, hs, he.put hd hun, hi, Ext.refl w hf⟩
    · exact hs.elim

theorem regA_sound {Q : Exit → Act → World → Prop} {ops : Array Oper} : ∀ (l : List Oper) (xs : List AOper) (G : Ghost) (S : St) (a : Act) (w : World), opersOk P nt ops l xs = true → EnvRep G nt S.env a → Inv G S.h w → Fresh G S.h S.n → ∀ {K : St → Prop}, regA P xs S K →
    (∀ a' w', After P nt G S w K a' w' → Q .normal a' w') → wpList P ops Q l a w
  | [], [], G, S, a, w, _, he, hi, hf, K, hs, hQ => hQ _ _ ⟨S, G, hs, he, hi, Ext.refl w hf⟩
  | o :: l, x :: xs, G, S, a, w, hk, he, hi, hf, K, hs, hQ => by
    simp only [opersOk, Bool.and_eq_true] at hk
    refine wpList_step fun K' hK' => ?_
    refine operA_sound hk.1 he hi hf hs fun a' w' ⟨S', G', h1, h2, h3, h4⟩ => hK' _ _ ?_
    exact regA_sound l xs G' S' a' w' hk.2 h2 h3 h4.fresh h1 fun a'' w'' ⟨S'', G'', k1, k2, k3, k4⟩ => hQ _ _ ⟨S'', G'', k1, k2, k3, h4.trans k4⟩
  | [], _ :: _, _, _, _, _, hk, _, _, _, _, _, _ => by simp [opersOk] at hk
  | _ :: _, [], _, _, _, _, hk, _, _, _, _, _, _ => by simp [opersOk] at hk

end
end Go.Ab
