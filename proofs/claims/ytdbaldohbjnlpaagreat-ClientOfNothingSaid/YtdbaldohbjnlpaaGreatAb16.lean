/- Functions out of their code. -/
import Derived.Test.YtdbaldohbjnlpaaGreatAb15
set_option linter.unusedVariables false
set_option linter.unusedSimpArgs false
namespace Go.Ab

inductive ARes where
  | tmp (t : Nat)
  | cell (t : Nat) (ag : Bool) (sz : Nat)

def resOk (P : Program) : List ResultVar → List ARes → Bool
  | [], [] => true
  | .tmp t :: r, .tmp t' :: r' => t == t' && resOk P r r'
  | .cell a t :: r, .cell a' ag sz :: r' => a == a' && tyOk P ag sz t && resOk P r r'
  | _, _ => false

def resV (e : Env) (h : Heap) : List ARes → Option (Prop × List AV)
  | [] => some (True, [])
  | .tmp t :: r => match resV e h r with
    | some (p, l) => some (p, get e t :: l)
    | none => none
  | .cell t ag sz :: r => match ldV ag sz h (get e t), resV e h r with
    | some (q, v), some (p, l) => some (q ∧ p, v :: l)
    | _, _ => none

def mkRes : List AV → AV
  | [v] => v
  | vs => .tup vs

/-- What is told says less. -/
def Weak (x y : AV) : Prop := ∀ G v, RepV G x v → RepV G y v
theorem Weak.refl (x : AV) : Weak x x := fun _ _ h => h

/-- The results, and what is left. -/
def finA (rs : List ARes) (K : AV → Heap → Nat → Prop) (S : St) : Prop :=
  match resV S.env S.h rs with
  | some (c, vs) => c ∧ (vs.length = 1 ∨ vs.all noTup = true) ∧ ∃ r h', Weak (mkRes vs) r ∧ Sub h' S.h ∧ K r h' S.n
  | none => False

def argEnv : Nat → List AV → Env
  | _, [] => []
  | i, v :: r => (i, v) :: argEnv (i + 1) r

def fnA (P : Program) (ac : ACode) (rs : List ARes) (args : List AV) (h : Heap) (n : Nat) (K : AV → Heap → Nat → Prop) : Prop :=
  wpA P ac ⟨argEnv 0 args, h, n⟩ (fun e S' => match e with | .normal | .ret => finA rs K S' | _ => False)

def fnChk (P : Program) (f : Nat) (fn : Func) (np : Nat) (ac : ACode) (rs : List ARes) : Bool :=
  (match fn.body with | some c => chkCode P fn.ntmps ac c | none => false) && resOk P fn.results.toList rs && decide (np ≤ fn.ntmps)

section
variable {P : Program}

theorem argEnv_get : ∀ (args : List AV) (i t : Nat), get (argEnv i args) t = if i ≤ t ∧ t < i + args.length then args.getD (t - i) .any else .any
  | [], i, t => by simp [argEnv, get]
  | v :: r, i, t => by
    simp only [argEnv, get_cons, argEnv_get r (i + 1) t]
    by_cases h : i = t
    · subst h; simp
    · rw [if_neg h]
      by_cases h2 : i ≤ t ∧ t < i + (v :: r).length
      · rw [if_pos h2, if_pos (by simp at h2 ⊢; omega)]
        have : t - i = (t - (i + 1)) + 1 := by omega
        rw [this]; rfl
      · rw [if_neg h2, if_neg (by simp at h2 ⊢; omega)]

def resOne (tmps : Array Value) : ResultVar → Sem Value
  | .tmp t => pure (tmps.getD t undef)
  | .cell x t => do loadVar t (← asAddr (tmps.getD x undef))

theorem res_run {G : Ghost} {h : Heap} {w : World} {nt : Nat} {env : Env} {a : Act} (he : EnvRep G nt env a) (hi : Inv G h w) : ∀ (rv : List ResultVar) (rs : List ARes), resOk P rv rs = true → ∀ {c : Prop} {vs : List AV}, resV env h rs = some (c, vs) → c →
    ∃ cvs : List Value, (rv.mapM (resOne a.tmps)).run P w = .ok cvs w ∧ F2 (RepV G) vs cvs
  | [], [], _, c, vs, hv, hc => by
    simp only [resV, Option.some.injEq, Prod.mk.injEq] at hv
    obtain ⟨_, rfl⟩ := hv
    exact ⟨[], by simp, .nil⟩
  | .tmp t :: r, .tmp t' :: r', hk, c, vs, hv, hc => by
    simp only [resOk, Bool.and_eq_true, beq_iff_eq] at hk
    obtain ⟨rfl, hk⟩ := hk
    simp only [resV] at hv
    split at hv
    · rename_i p l hl
      cases hv
      obtain ⟨cvs, h1, h2⟩ := res_run he hi r r' hk hl hc
      refine ⟨_ :: cvs, ?_, .cons (he.at_ t) h2⟩
      simp only [List.mapM_cons, Sem.run_bind, resOne, Sem.run_pure, Result.andThen_ok, h1]
    · cases hv
  | .cell x t :: r, .cell x' ag sz :: r', hk, c, vs, hv, hc => by
    simp only [resOk, Bool.and_eq_true, beq_iff_eq] at hk
    obtain ⟨⟨rfl, hk1⟩, hk2⟩ := hk
    simp only [resV] at hv
    split at hv
    · rename_i q v p l hq hl
      cases hv
      obtain ⟨cvs, h1, h2⟩ := res_run he hi r r' hk2 hl hc.2
      obtain ⟨cv, h3, h4⟩ := load_ok (P := P) hi hk1 (he.at_ x) hq hc.1
      have h5 : ∃ ad, a.tmps.getD x undef = .pointer (some ad) := by
        have h6 := he.at_ x
        unfold ldV at hq
        split at hq
        · rename_i e; rw [e] at h6; obtain ⟨b, o, h7, _⟩ := h6; exact ⟨_, h7⟩
        · rename_i e; rw [e] at h6; obtain ⟨pl, _, h7⟩ := h6; exact ⟨_, h7⟩
        · cases hq
      obtain ⟨ad, h5⟩ := h5
      rw [h5] at h3
      have h8 : (loadVar t ad).run P w = .ok cv w := by simpa [Instr.loadAt, Instr.sureAddr] using h3
      refine ⟨cv :: cvs, ?_, .cons h4.toV h2⟩
      simp only [List.mapM_cons, Sem.run_bind, resOne, h5, asAddr, Sem.run_pure, Result.andThen_ok, h8, h1]
    · cases hv
  | [], _ :: _, hk, _, _, _, _ => by simp [resOk] at hk
  | .tmp _ :: _, [], hk, _, _, _, _ => by simp [resOk] at hk
  | .cell _ _ :: _, [], hk, _, _, _, _ => by simp [resOk] at hk
  | .tmp _ :: _, .cell _ _ _ :: _, hk, _, _, _, _ => by simp [resOk] at hk
  | .cell _ _ :: _, .tmp _ :: _, hk, _, _, _, _ => by simp [resOk] at hk

theorem F2.toE {G : Ghost} : ∀ {vs : List AV} {cvs : List Value}, F2 (RepV G) vs cvs → vs.all noTup = true → F2 (RepE G) vs cvs
  | _, _, .nil, _ => .nil
  | v :: vs, _, .cons h r, hn => by
    simp only [List.all_cons, Bool.and_eq_true] at hn
    refine .cons ?_ (F2.toE r hn.2)
    cases v with
    | tup _ => exact absurd hn.1 (by simp [noTup])
    | any => trivial
    | c _ => exact h
    | agg _ => exact h

theorem fn_intro {f : Nat} {fn : Func} {ac : ACode} {rs : List ARes} (hf : P.funcs[f]? = some fn) {np : Nat} (hchk : fnChk P f fn np ac rs = true) {args : List AV} (hnp : args.length = np) {h : Heap} {n : Nat} {K : AV → Heap → Nat → Prop}
    (hw : fnA P ac rs args h n K) : Fn P f args h n K := by
  intro G vs w hargs hi hfr
  simp only [fnChk, Bool.and_eq_true, decide_eq_true_eq] at hchk
  obtain ⟨⟨h1, h2⟩, h3⟩ := hchk
  cases hb : fn.body with
  | none => rw [hb] at h1; cases h1
  | some c =>
    rw [hb] at h1
    simp only at h1
    have hl := F2.length hargs
    refine calls_of_wp hf hb (wp_mono (wpA_sound (P := P) (nt := fn.ntmps) ac c G ⟨argEnv 0 args, h, n⟩ _ w _ h1 ⟨?_, rfl, fun t => ?_⟩ hi hfr hw) fun e a' w' hA => ?_)
    · simp; omega
    · rw [argEnv_get]
      split
      · rename_i ht
        have hta : t < args.length := by omega
        obtain ⟨y, h4, h5⟩ := F2.get hargs t (args.getD t .any) (by simp [List.getD, List.getElem?_eq_getElem hta])
        have h6 : (vs.toArray ++ Array.replicate (fn.ntmps - vs.toArray.size) undef).getD t undef = y := by
          have h7 := (List.getElem?_eq_some_iff.1 h4).1
          rw [Array.getD_eq_getD_getElem?, Array.getElem?_append_left (by simpa using h7)]
          simp [h4]
        simp only [Nat.sub_zero]
        rw [h6]
        exact h5.toV
      · trivial
    · obtain ⟨S', G', hQ, he', hi', hext⟩ := hA
      have fin : finA rs K S' → a'.defers = [] ∧ ∃ v, (results fn a'.tmps).run P w' = .ok v w' ∧ ∃ cv r h' n' G'', Ending.returned v = .returned cv ∧ K r h' n' ∧ RepV G'' r cv ∧ Inv G'' h' w' ∧ Ext G h n w G'' h' n' w' := fun hfin => by
        refine ⟨he'.defers, ?_⟩
        unfold finA at hfin
        split at hfin
        · rename_i c' vs' hv
          obtain ⟨hc, hn, r, h', k1, k2, k3⟩ := hfin
          obtain ⟨cvs, q1, q2⟩ := res_run (P := P) he' hi' fn.results.toList rs h2 hv hc
          have hres : (results fn a'.tmps).run P w' = .ok (if hh : cvs.toArray.size = 1 then cvs.toArray[0] else .tuple cvs.toArray) w' := by
            have hr : results fn a'.tmps = (do let vs ← fn.results.mapM (resOne a'.tmps); pure (if hh : vs.size = 1 then vs[0] else .tuple vs)) := rfl
            rw [hr, Array.mapM_eq_mapM_toList]
            simp only [Sem.run_bind, Sem.run_map, q1, Result.andThen_ok, Sem.run_pure]
          refine ⟨_, hres, _, r, h', S'.n, G', rfl, k3, k1 G' _ ?_, hi'.sub k2, hext.sub k2⟩
          cases q2 with
          | nil => exact ⟨#[], rfl, .nil⟩
          | cons b rest =>
            cases rest with
            | nil => simpa [mkRes] using b
            | cons b2 rest2 =>
              have hn' := hn.resolve_left (by simp)
              have h9 : RepV G' (.tup (_ :: _ :: _)) (.tuple (_ :: _ :: _).toArray) := ⟨_, rfl, F2.toE (F2.cons b (F2.cons b2 rest2)) hn'⟩
              simpa [mkRes] using h9
        · exact hfin.elim
      cases e with
      | normal => exact fin hQ
      | ret => exact fin hQ
      | _ => exact hQ.elim

end
end Go.Ab
