/- Rules of a walk over abstract values, for 'simp only'. -/
import Derived.Test.YtdbaldohbjnlpaaGreatAb19b
import Derived.Laws.Bits64
import Derived.Laws.BitsLemmas
import Derived.Laws.BitsAllLaws
set_option linter.unusedVariables false
set_option linter.unusedSimpArgs false
namespace Go.Ab

section
variable {k k' : IntKind}
theorem bn_add (a b : Int) : bn .add (.c (.int k a)) (.c (.int k' b)) = some (k = k', .c (.int k (k.wrap (a + b)))) := rfl
theorem bn_sub (a b : Int) : bn .sub (.c (.int k a)) (.c (.int k' b)) = some (k = k', .c (.int k (k.wrap (a - b)))) := rfl
theorem bn_mul (a b : Int) : bn .mul (.c (.int k a)) (.c (.int k' b)) = some (k = k', .c (.int k (k.wrap (a * b)))) := rfl
theorem bn_quo (a b : Int) : bn .quo (.c (.int k a)) (.c (.int k' b)) = some (k = k' ∧ b ≠ 0, .c (.int k (k.wrap (a.tdiv b)))) := rfl
theorem bn_rem (a b : Int) : bn .rem (.c (.int k a)) (.c (.int k' b)) = some (k = k' ∧ b ≠ 0, .c (.int k (a.tmod b))) := rfl
theorem bn_and (a b : Int) : bn .and (.c (.int k a)) (.c (.int k' b)) = some (k = k', .c (.int k (bitOp .and k a b))) := rfl
theorem bn_or (a b : Int) : bn .or (.c (.int k a)) (.c (.int k' b)) = some (k = k', .c (.int k (bitOp .or k a b))) := rfl
theorem bn_xor (a b : Int) : bn .xor (.c (.int k a)) (.c (.int k' b)) = some (k = k', .c (.int k (bitOp .xor k a b))) := rfl
theorem bn_andNot (a b : Int) : bn .andNot (.c (.int k a)) (.c (.int k' b)) = some (k = k', .c (.int k (bitOp .andNot k a b))) := rfl
theorem bn_shl (a b : Int) : bn .shl (.c (.int k a)) (.c (.int k' b)) = some (0 ≤ b, .c (.int k (k.wrap (a * 2 ^ (min b.toNat k.bits))))) := rfl
theorem bn_shr (a b : Int) : bn .shr (.c (.int k a)) (.c (.int k' b)) = some (0 ≤ b, .c (.int k (a.fdiv (2 ^ (min b.toNat k.bits))))) := rfl
theorem bn_eq (a b : Int) : bn .eq (.c (.int k a)) (.c (.int k' b)) = some (k = k', .c (.bool (a == b))) := rfl
theorem bn_ne (a b : Int) : bn .ne (.c (.int k a)) (.c (.int k' b)) = some (k = k', .c (.bool (a != b))) := rfl
theorem bn_lt (a b : Int) : bn .lt (.c (.int k a)) (.c (.int k' b)) = some (k = k', .c (.bool (decide (a < b)))) := rfl
theorem bn_le (a b : Int) : bn .le (.c (.int k a)) (.c (.int k' b)) = some (k = k', .c (.bool (decide (a ≤ b)))) := rfl
theorem bn_gt (a b : Int) : bn .gt (.c (.int k a)) (.c (.int k' b)) = some (k = k', .c (.bool (decide (a > b)))) := rfl
theorem bn_ge (a b : Int) : bn .ge (.c (.int k a)) (.c (.int k' b)) = some (k = k', .c (.bool (decide (a ≥ b)))) := rfl
theorem bn_eqb (a b : Bool) : bn .eqb (.c (.bool a)) (.c (.bool b)) = some (True, .c (.bool (a == b))) := rfl
theorem bn_neb (a b : Bool) : bn .neb (.c (.bool a)) (.c (.bool b)) = some (True, .c (.bool !(a == b))) := rfl
theorem bn_sadd (a b : List UInt8) : bn .sadd (.c (.str a)) (.c (.str b)) = some (((a.length + b.length : Nat) : Int) ≤ 9223372036854775807, .c (.str (a ++ b))) := rfl
theorem bn_seq (a b : List UInt8) : bn .seq (.c (.str a)) (.c (.str b)) = some (True, .c (.bool (a == b))) := rfl
theorem bn_sne (a b : List UInt8) : bn .sne (.c (.str a)) (.c (.str b)) = some (True, .c (.bool !(a == b))) := rfl
theorem bn_slt (a b : List UInt8) : bn .slt (.c (.str a)) (.c (.str b)) = some (True, .c (.bool (Op.bytesLess a b))) := rfl
theorem bn_sle (a b : List UInt8) : bn .sle (.c (.str a)) (.c (.str b)) = some (True, .c (.bool (Op.bytesLess a b || a == b))) := rfl
theorem bn_sgt (a b : List UInt8) : bn .sgt (.c (.str a)) (.c (.str b)) = some (True, .c (.bool !(Op.bytesLess a b || a == b))) := rfl
theorem bn_sge (a b : List UInt8) : bn .sge (.c (.str a)) (.c (.str b)) = some (True, .c (.bool !(Op.bytesLess a b))) := rfl
end
theorem bn_eqnil (x : AC) (y : AV) : bn .eqnil (.c x) y = match isNil x y with | some b => some (True, .c (.bool b)) | none => none := rfl
theorem bn_nenil (x : AC) (y : AV) : bn .nenil (.c x) y = match isNil x y with | some b => some (True, .c (.bool !b)) | none => none := rfl

theorem get_self (t : Nat) (v : AV) (r : Env) : get ((t, v) :: r) t = v := by simp [get]
theorem get_ne {s t : Nat} (v : AV) (r : Env) (h : (s == t) = false) : get ((s, v) :: r) t = get r t := by simp [get, h]
theorem get_nil (t : Nat) : get [] t = .any := rfl

/-- A condition of two arms, as one. -/
theorem two {b : Bool} {p q : Prop} : ((b = true → p) ∧ (b = false → q)) ↔ (if b then p else q) := by cases b <;> simp
theorem two' {b : Bool} {p q : Prop} : ((b = false → p) ∧ (b = true → q)) ↔ (if b then q else p) := by cases b <;> simp

/-- The results, as they are. -/
def finS (rs : List ARes) (K : AV → Heap → Nat → Prop) (S : St) : Prop :=
  match resV S.env S.h rs with
  | some (c, vs) => c ∧ (vs.length = 1 ∨ vs.all noTup = true) ∧ K (mkRes vs) S.h S.n
  | none => False

def fnS (P : Program) (bc : BCode) (rs : List ARes) (args : List AV) (h : Heap) (n : Nat) (K : AV → Heap → Nat → Prop) : Prop :=
  wpB P bc ⟨argEnv 0 args, h, n⟩ (fun e S' => match e with | .normal | .ret => finS rs K S' | _ => False)

def bChk (P : Program) (f : Nat) (fn : Func) (np : Nat) (bc : BCode) (rs : List ARes) : Bool := bc.ok && fnChk P f fn np bc.flat rs

theorem finS_finA {rs : List ARes} {K : AV → Heap → Nat → Prop} {S : St} (h : finS rs K S) : finA rs K S := by
  unfold finS at h
  unfold finA
  cases hv : resV S.env S.h rs with
  | none => rw [hv] at h; exact h
  | some x =>
    obtain ⟨c, vs⟩ := x
    rw [hv] at h
    obtain ⟨h1, h2, h3⟩ := h
    exact ⟨h1, h2, _, _, Weak.refl _, fun _ _ h => h, h3⟩

theorem fn_introB {P : Program} {f : Nat} {fn : Func} {bc : BCode} {rs : List ARes} (hf : P.funcs[f]? = some fn) {np : Nat} (hchk : bChk P f fn np bc rs = true) {args : List AV} (hnp : args.length = np) {h : Heap} {n : Nat} {K : AV → Heap → Nat → Prop}
    (hw : wpB P bc ⟨argEnv 0 args, h, n⟩ (fun e S' => match e with | .normal | .ret => finA rs K S' | _ => False)) : Fn P f args h n K := by
  simp only [bChk, Bool.and_eq_true] at hchk
  exact fn_intro hf hchk.2 hnp (wpB_sound bc hchk.1 hw)

theorem fn_introS {P : Program} {f : Nat} {fn : Func} {bc : BCode} {rs : List ARes} (hf : P.funcs[f]? = some fn) {np : Nat} (hchk : bChk P f fn np bc rs = true) {args : List AV} (hnp : args.length = np) {h : Heap} {n : Nat} {K : AV → Heap → Nat → Prop}
    (hw : fnS P bc rs args h n K) : Fn P f args h n K :=
  fn_introB hf hchk hnp (wpB_mono bc (fun e S h => by cases e <;> first | exact finS_finA h | exact h) hw)

/-! One rule for each kind of code; a loop and a call are left as they stand, with what comes behind them -/
section
variable {P : Program}

/-! What comes behind, as names: nothing is rewritten in it before it is reached. -/
def seqK (P : Program) (b : BCode) (Q : Exit → St → Prop) : Exit → St → Prop := fun e S' => match e with | .normal => wpB P b S' Q | e => Q e S'
def blockK (id : Nat) (Q : Exit → St → Prop) : Exit → St → Prop := fun e S' => match e with | .exit id' => if id' = id then Q .normal S' else Q (.exit id') S' | e => Q e S'
def keepK (keep : List Nat) (Q : Exit → St → Prop) : St → Prop := fun S' => Q .normal ⟨keepE keep S'.env, S'.h, S'.n⟩
def opK (P : Program) (r : List BItem) (K : St → Prop) : St → Prop := fun S' => regB P r S' K
def nK (P : Program) (xs : List AOper) (chk : List Nat) (r : Plan) (K : St → Prop) : St → Prop := fun S' => stables xs S' chk ∧ regN P xs r S' K
def fK (P : Program) (xs : List AOper) (r : Plan) (K : St → Prop) : St → Prop := fun S' => regN P xs r S' K
def callK (env : Env) (dst : Option Nat) (K : St → Prop) : AV → Heap → Nat → Prop := fun r h' n' => K ⟨putE env dst r, h', n'⟩
def finK (rs : List ARes) (K : AV → Heap → Nat → Prop) : Exit → St → Prop := fun e S' => match e with | .normal | .ret => finS rs K S' | _ => False
def roundK (I : St → Prop) (m : St → Nat) (S : St) (Q : Exit → St → Prop) : Exit → St → Prop := fun e S'' => match e with | .normal => I S'' ∧ m S'' < m S | e => Q e S''
def loopW (P : Program) (c : BCode) (S : St) (Q : Exit → St → Prop) : Prop := wpB P (.loop c) S Q

theorem seqK_normal {b : BCode} {Q : Exit → St → Prop} {S : St} : seqK P b Q .normal S = wpB P b S Q := rfl
theorem seqK_exit {b : BCode} {Q : Exit → St → Prop} {i : Nat} {S : St} : seqK P b Q (.exit i) S = Q (.exit i) S := rfl
theorem seqK_ret {b : BCode} {Q : Exit → St → Prop} {S : St} : seqK P b Q .ret S = Q .ret S := rfl
theorem blockK_normal {i : Nat} {Q : Exit → St → Prop} {S : St} : blockK i Q .normal S = Q .normal S := rfl
theorem blockK_exit {i j : Nat} {Q : Exit → St → Prop} {S : St} : blockK i Q (.exit j) S = if j = i then Q .normal S else Q (.exit j) S := rfl
theorem blockK_ret {i : Nat} {Q : Exit → St → Prop} {S : St} : blockK i Q .ret S = Q .ret S := rfl
theorem keepK_ap {keep : List Nat} {Q : Exit → St → Prop} {S : St} : keepK keep Q S = Q .normal ⟨keepE keep S.env, S.h, S.n⟩ := rfl
theorem opK_ap {r : List BItem} {K : St → Prop} {S : St} : opK P r K S = regB P r S K := rfl
theorem nK_ap {xs : List AOper} {chk : List Nat} {r : Plan} {K : St → Prop} {S : St} : nK P xs chk r K S = (stables xs S chk ∧ regN P xs r S K) := rfl
theorem fK_ap {xs : List AOper} {r : Plan} {K : St → Prop} {S : St} : fK P xs r K S = regN P xs r S K := rfl
theorem callK_ap {env : Env} {dst : Option Nat} {K : St → Prop} {r : AV} {h : Heap} {n : Nat} : callK env dst K r h n = K ⟨putE env dst r, h, n⟩ := rfl
theorem finK_normal {rs : List ARes} {K : AV → Heap → Nat → Prop} {S : St} : finK rs K .normal S = finS rs K S := rfl
theorem finK_ret {rs : List ARes} {K : AV → Heap → Nat → Prop} {S : St} : finK rs K .ret S = finS rs K S := rfl
theorem roundK_normal {I : St → Prop} {m : St → Nat} {S S' : St} {Q : Exit → St → Prop} : roundK I m S Q .normal S' = (I S' ∧ m S' < m S) := rfl
theorem roundK_exit {I : St → Prop} {m : St → Nat} {S S' : St} {Q : Exit → St → Prop} {i : Nat} : roundK I m S Q (.exit i) S' = Q (.exit i) S' := rfl
theorem roundK_ret {I : St → Prop} {m : St → Nat} {S S' : St} {Q : Exit → St → Prop} : roundK I m S Q .ret S' = Q .ret S' := rfl

theorem fnS_eq {bc : BCode} {rs : List ARes} {args : List AV} {h : Heap} {n : Nat} {K : AV → Heap → Nat → Prop} : fnS P bc rs args h n K = wpB P bc ⟨argEnv 0 args, h, n⟩ (finK rs K) := rfl
theorem wpB_skip {S : St} {Q : Exit → St → Prop} : wpB P .skip S Q = Q .normal S := rfl
theorem wpB_seq {a b : BCode} {S : St} {Q : Exit → St → Prop} : wpB P (.seq a b) S Q = wpB P a S (seqK P b Q) := rfl
theorem wpB_reg {xs : List BItem} {keep : List Nat} {S : St} {Q : Exit → St → Prop} : wpB P (.reg xs keep) S Q = regB P xs S (keepK keep Q) := rfl
theorem wpB_regd {xs : List AOper} {p : Plan} {keep : List Nat} {S : St} {Q : Exit → St → Prop} : wpB P (.regd xs p keep) S Q = regN P xs p S (keepK keep Q) := rfl
theorem wpB_cond {c : Opd} {a b : BCode} {S : St} {Q : Exit → St → Prop} : wpB P (.cond c a b) S Q = (match c.ev S.env with
    | .c (.bool t) => (t = true → wpB P a S Q) ∧ (t = false → wpB P b S Q)
    | _ => False) := rfl
theorem wpB_block {id : Nat} {c : BCode} {S : St} {Q : Exit → St → Prop} : wpB P (.block id c) S Q = wpB P c S (blockK id Q) := rfl
theorem wpB_exit {id : Nat} {S : St} {Q : Exit → St → Prop} : wpB P (.exit id) S Q = Q (.exit id) S := rfl
theorem wpB_ret {S : St} {Q : Exit → St → Prop} : wpB P .ret S Q = Q .ret S := rfl
theorem wpB_loop {c : BCode} {S : St} {Q : Exit → St → Prop} : wpB P (.loop c) S Q = loopW P c S Q := rfl
theorem regB_nil {S : St} {K : St → Prop} : regB P [] S K = K S := rfl
theorem regB_o {o : AOper} {r : List BItem} {S : St} {K : St → Prop} : regB P (.o o :: r) S K = operA P o S (opK P r K) := rfl
theorem regB_g {t : Nat} {want : Bool} {sub : List BItem} {d : Nat} {px : Opd} {r : List BItem} {S : St} {K : St → Prop} : regB P (.g t want sub d px :: r) S K = match evI S.h (.g t want sub d px) S.env with
    | some (c, e) => c ∧ opK P r K ⟨e, S.h, S.n⟩
    | none => False := rfl
theorem regN_done {xs : List AOper} {S : St} {K : St → Prop} : regN P xs .done S K = K S := rfl
theorem regN_fl {xs : List AOper} {i : Nat} {r : Plan} {S : St} {K : St → Prop} : regN P xs (.fl i r) S K = match xs[i]? with
    | some x => floatA x S (fK P xs r K)
    | none => False := rfl
theorem regN_ch {xs : List AOper} {i : Nat} {chk : List Nat} {r : Plan} {S : St} {K : St → Prop} : regN P xs (.ch i chk r) S K = match xs[i]? with
    | some x => operA P x S (nK P xs chk r K)
    | none => False := rfl
theorem regN_alt {xs : List AOper} {i j : Nat} {c d : List Nat} {r s : Plan} {S : St} {K : St → Prop} : regN P xs (.alt i c r j d s) S K = ((match xs[i]? with
    | some x => operA P x S (nK P xs c r K)
    | none => False) ∧ (match xs[j]? with
    | some x => operA P x S (nK P xs d s K)
    | none => False)) := rfl
theorem stepA_call {dst : Option Nat} {f : Nat} {args : List Opd} {g : Option (Nat × Bool)} {af : List Nat} {S : St} {K : St → Prop} : stepA P ⟨dst, .call f args, g, af⟩ S K = ((args.map (·.ev S.env)).all noTup = true ∧ Fn P f (args.map (·.ev S.env)) S.h S.n (callK S.env dst K)) := rfl

/-- The results, the heap as it was. -/
def finH (h0 : Heap) (rs : List ARes) (K : AV → Heap → Nat → Prop) (S : St) : Prop :=
  match resV S.env S.h rs with
  | some (c, vs) => c ∧ (vs.length = 1 ∨ vs.all noTup = true) ∧ Sub h0 S.h ∧ K (mkRes vs) h0 S.n
  | none => False
def finHK (h0 : Heap) (rs : List ARes) (K : AV → Heap → Nat → Prop) : Exit → St → Prop := fun e S' => match e with | .normal | .ret => finH h0 rs K S' | _ => False
theorem finHK_normal {h0 : Heap} {rs : List ARes} {K : AV → Heap → Nat → Prop} {S : St} : finHK h0 rs K .normal S = finH h0 rs K S := rfl
theorem finHK_ret {h0 : Heap} {rs : List ARes} {K : AV → Heap → Nat → Prop} {S : St} : finHK h0 rs K .ret S = finH h0 rs K S := rfl

theorem Fn_of_fresh {f : Nat} {args : List AV} {h : Heap} {n : Nat} {K : AV → Heap → Nat → Prop} (hw : (∀ id, n ≤ id → h id = Option.none) → Fn P f args h n K) : Fn P f args h n K :=
  fun G vs w h1 h2 h3 => hw (fun id hid => (h3 id hid).1) G vs w h1 h2 h3

/-- A function that leaves all objects as they were: a heap h0 that is part of what it leaves. -/
theorem fn_introH (h0 : Heap) {f : Nat} {fn : Func} {bc : BCode} {rs : List ARes} (hf : P.funcs[f]? = some fn) {np : Nat} (hchk : bChk P f fn np bc rs = true) {args : List AV} (hnp : args.length = np) {h : Heap} {n : Nat} {K : AV → Heap → Nat → Prop}
    (hw : (∀ id, n ≤ id → h id = Option.none) → wpB P bc ⟨argEnv 0 args, h, n⟩ (finHK h0 rs K)) : Fn P f args h n K :=
  Fn_of_fresh fun hfr => fn_introB hf hchk hnp (wpB_mono bc (fun e S hS => by
    have key : finH h0 rs K S → finA rs K S := fun hS => by
      unfold finH at hS
      unfold finA
      cases hv : resV S.env S.h rs with
      | none => rw [hv] at hS; exact hS
      | some x =>
        obtain ⟨c, vs⟩ := x
        rw [hv] at hS
        obtain ⟨h1, h2, h3, h4⟩ := hS
        exact ⟨h1, h2, _, _, Weak.refl _, h3, h4⟩
    cases e <;> first | exact key hS | exact hS) (hw hfr))

/-- The results, with a heap that is part of what is left. -/
def finE (rs : List ARes) (K : AV → Heap → Nat → Prop) (S : St) : Prop :=
  match resV S.env S.h rs with
  | some (c, vs) => c ∧ (vs.length = 1 ∨ vs.all noTup = true) ∧ ∃ h', Sub h' S.h ∧ K (mkRes vs) h' S.n
  | none => False
def finEK (rs : List ARes) (K : AV → Heap → Nat → Prop) : Exit → St → Prop := fun e S' => match e with | .normal | .ret => finE rs K S' | _ => False
theorem finEK_normal {rs : List ARes} {K : AV → Heap → Nat → Prop} {S : St} : finEK rs K .normal S = finE rs K S := rfl
theorem finEK_ret {rs : List ARes} {K : AV → Heap → Nat → Prop} {S : St} : finEK rs K .ret S = finE rs K S := rfl
theorem fn_introE {f : Nat} {fn : Func} {bc : BCode} {rs : List ARes} (hf : P.funcs[f]? = some fn) {np : Nat} (hchk : bChk P f fn np bc rs = true) {args : List AV} (hnp : args.length = np) {h : Heap} {n : Nat} {K : AV → Heap → Nat → Prop}
    (hw : (∀ id, n ≤ id → h id = Option.none) → wpB P bc ⟨argEnv 0 args, h, n⟩ (finEK rs K)) : Fn P f args h n K :=
  Fn_of_fresh fun hfr => fn_introB hf hchk hnp (wpB_mono bc (fun e S hS => by
    have key : finE rs K S → finA rs K S := fun hS => by
      unfold finE at hS
      unfold finA
      cases hv : resV S.env S.h rs with
      | none => rw [hv] at hS; exact hS
      | some x =>
        obtain ⟨c, vs⟩ := x
        rw [hv] at hS
        obtain ⟨h1, h2, h', h3, h4⟩ := hS
        exact ⟨h1, h2, _, _, Weak.refl _, h3, h4⟩
    cases e <;> first | exact key hS | exact hS) (hw hfr))

theorem Sub.upd_new {h h' : Heap} {n : Nat} {o : AObj} (hs : Sub h h') (hn : h n = Option.none) : Sub h (h'.upd n o) := by
  intro id ob hid
  have : id ≠ n := fun e => by rw [e, hn] at hid; cases hid
  simp only [Heap.upd, if_neg this]
  exact hs id ob hid
theorem Sub.rfl' (h : Heap) : Sub h h := fun _ _ h => h

theorem part_cell (sz : Nat) (cs : List AC) (off : Nat) : part false sz cs off = match cs[off]? with | some c => some (True, .c c) | none => none := rfl
theorem part_agg (sz : Nat) (cs : List AC) (off : Nat) : part true sz cs off = some (off + sz ≤ cs.length, .agg ((cs.drop off).take sz)) := rfl

theorem loop_intro {c : BCode} {S : St} {Q : Exit → St → Prop} (I : St → Prop) (m : St → Nat) (h0 : I S) (h : ∀ S', I S' → wpB P c S' (roundK I m S' Q)) : loopW P c S Q := ⟨I, m, h0, h⟩
end

def roundA {α : Type} (Pr : α → Prop) (σ : α → St) (μ : α → Nat) (a : α) (Q : Exit → St → Prop) : Exit → St → Prop := fun e S'' => match e with | .normal => ∃ a', Pr a' ∧ S'' = σ a' ∧ μ a' < μ a | e => Q e S''
theorem roundA_normal {α : Type} {Pr : α → Prop} {σ : α → St} {μ : α → Nat} {a : α} {Q : Exit → St → Prop} {S : St} : roundA Pr σ μ a Q .normal S = ∃ a', Pr a' ∧ S = σ a' ∧ μ a' < μ a := rfl
theorem roundA_exit {α : Type} {Pr : α → Prop} {σ : α → St} {μ : α → Nat} {a : α} {Q : Exit → St → Prop} {S : St} {i : Nat} : roundA Pr σ μ a Q (.exit i) S = Q (.exit i) S := rfl
theorem roundA_ret {α : Type} {Pr : α → Prop} {σ : α → St} {μ : α → Nat} {a : α} {Q : Exit → St → Prop} {S : St} : roundA Pr σ μ a Q .ret S = Q .ret S := rfl

theorem least_of {p : Nat → Prop} : ∀ k, p k → ∃ j, p j ∧ ∀ i, p i → j ≤ i := by
  intro k
  induction k using Nat.strongRecOn with
  | _ k ih =>
    intro hk
    by_cases h : ∃ i, p i ∧ i < k
    · obtain ⟨i, h1, h2⟩ := h
      exact ih i h2 h1
    · exact ⟨k, hk, fun i hi => Nat.le_of_not_lt fun hlt => h ⟨i, hi, hlt⟩⟩

/-- A loop whose states are told by a datum: where it begins, a round, what falls. -/
theorem loop_ind {P : Program} {α : Type} (Pr : α → Prop) (σ : α → St) (μ : α → Nat) {c : BCode} {S : St} {Q : Exit → St → Prop} (a0 : α) (h0 : S = σ a0) (hp : Pr a0)
    (h : ∀ a, Pr a → wpB P c (σ a) (roundA Pr σ μ a Q)) : loopW P c S Q := by
  let ex (S : St) (k : Nat) : Prop := ∃ a, Pr a ∧ S = σ a ∧ μ a = k
  have hm : ∀ S, ∃ j, (∃ k, ex S k) → ex S j ∧ ∀ i, ex S i → j ≤ i := fun S => by
    by_cases hS : ∃ k, ex S k
    · obtain ⟨k, hk⟩ := hS
      obtain ⟨j, hj⟩ := least_of k hk
      exact ⟨j, fun _ => hj⟩
    · exact ⟨0, fun hS' => absurd hS' hS⟩
  obtain ⟨m, hm⟩ := Classical.axiomOfChoice hm
  refine ⟨fun S => ∃ a, Pr a ∧ S = σ a, m, ⟨a0, hp, h0⟩, fun S' ⟨a', ha', hS'⟩ => ?_⟩
  obtain ⟨⟨a, ha, hS, hk⟩, _⟩ := hm S' ⟨_, a', ha', hS', rfl⟩
  have := h a ha
  rw [← hS] at this
  refine wpB_mono c (fun e S'' hQ => ?_) this
  cases e with
  | normal =>
    obtain ⟨b, hb, hSb, hlt⟩ := hQ
    refine ⟨⟨b, hb, hSb⟩, ?_⟩
    have := (hm S'' ⟨_, b, hb, hSb, rfl⟩).2 _ ⟨b, hb, hSb, rfl⟩
    omega
  | _ => exact hQ

theorem w64 {n : Int} (h1 : -9223372036854775808 ≤ n) (h2 : n < 9223372036854775808) : IntKind.i64.wrap n = n := by rw [IntKind.wrap_i64]; omega
theorem wu64 {n : Int} (h1 : 0 ≤ n) (h2 : n < 18446744073709551616) : IntKind.u64.wrap n = n := by rw [IntKind.wrap_u64]; omega
theorem wu8 {n : Int} (h1 : 0 ≤ n) (h2 : n < 256) : IntKind.u8.wrap n = n := by rw [IntKind.wrap_u8]; omega

theorem upd_upd (h : Heap) (i : Nat) (o o' : AObj) : (h.upd i o).upd i o' = h.upd i o' := by funext j; simp only [Heap.upd]; split <;> rfl

/-- A heap that has grown since a call began. -/
structure Grow (h : Heap) (n : Nat) (hh : Heap) (nn : Nat) : Prop where
  fr : ∀ id, n ≤ id → h id = Option.none
  sub : Sub h hh
  le : n ≤ nn
  fr' : ∀ id, nn ≤ id → hh id = Option.none

theorem Grow.rfl' {h : Heap} {n : Nat} (hfr : ∀ id, n ≤ id → h id = Option.none) : Grow h n h n := ⟨hfr, fun _ _ h => h, Nat.le_refl _, hfr⟩
theorem Grow.upd {h hh : Heap} {n nn : Nat} (g : Grow h n hh nn) (o : AObj) : Grow h n (hh.upd nn o) (nn + 1) :=
  ⟨g.fr, g.sub.upd_new (g.fr nn g.le), by have := g.le; omega, fun id hid => by
    simp only [Heap.upd]; rw [if_neg (by omega)]; exact g.fr' id (by omega)⟩
theorem Grow.next {h hh : Heap} {n nn nn' : Nat} (g : Grow h n hh nn) (hle : nn ≤ nn') : Grow h n hh nn' :=
  ⟨g.fr, g.sub, Nat.le_trans g.le hle, fun id hid => g.fr' id (Nat.le_trans hle hid)⟩

end Go.Ab
