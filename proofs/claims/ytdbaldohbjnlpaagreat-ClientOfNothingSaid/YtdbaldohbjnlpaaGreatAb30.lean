/- Abstract code, carried out by a program of Lean: for what is closed. Printed by an own tool (mk30.py) out of Ab2. -/
import Derived.Test.YtdbaldohbjnlpaaGreatAb20
set_option linter.unusedVariables false
set_option linter.unusedSimpArgs false
namespace Go.Ab

def must (b : Bool) (v : AV) : Option AV := match b with | true => some v | false => none
def mustL (b : Bool) (v : List (List AC)) : Option (List (List AC)) := match b with | true => some v | false => none
theorem must_some {b : Bool} {u v : AV} (h : must b u = some v) : b = true ∧ u = v := by
  cases b with
  | true => exact ⟨rfl, by simpa [must] using h⟩
  | false => cases h
theorem mustL_some {b : Bool} {u v : List (List AC)} (h : mustL b u = some v) : b = true ∧ u = v := by
  cases b with
  | true => exact ⟨rfl, by simpa [mustL] using h⟩
  | false => cases h

def wrapE (k : IntKind) (n : Int) : Int :=
  match k with
  | .i64 => (n + 9223372036854775808) % 18446744073709551616 - 9223372036854775808
  | .u64 => n % 18446744073709551616
  | .u32 => n % 4294967296
  | .u8 => n % 256
  | k => k.wrap n
theorem wrapE_eq (k : IntKind) (n : Int) : wrapE k n = k.wrap n := by
  cases k <;> first | rfl | exact (IntKind.wrap_i64 n).symm | exact (IntKind.wrap_u64 n).symm | exact (IntKind.wrap_u32 n).symm | exact (IntKind.wrap_u8 n).symm

def modE (k : IntKind) : Int :=
  match k with
  | .i64 | .u64 => 18446744073709551616
  | .u32 | .i32 => 4294967296
  | .u8 | .i8 => 256
  | .u16 | .i16 => 65536
def bitE (f : BOp) (k : IntKind) (a b : Int) : Int :=
  match f with
  | .and => wrapE k ((a % modE k).toNat &&& (b % modE k).toNat : Nat)
  | .or => wrapE k ((a % modE k).toNat ||| (b % modE k).toNat : Nat)
  | .xor => wrapE k ((a % modE k).toNat ^^^ (b % modE k).toNat : Nat)
  | f => bitOp f k a b
theorem modE_eq (k : IntKind) : ((2 ^ k.bits : Nat) : Int) = modE k := by cases k <;> rfl
theorem bitE_eq (f : BOp) (k : IntKind) (a b : Int) : bitE f k a b = bitOp f k a b := by
  cases f <;> simp only [bitE, bitOp, wrapE_eq, BitVec.toNat_and, BitVec.toNat_or, BitVec.toNat_xor, BitVec.toNat_ofInt, modE_eq]

instance isByteDec : ∀ e : List AC, Decidable (isByte e)
  | [.int .u8 _] => isTrue trivial
  | [] => isFalse (by simp [isByte])
  | [.int .i8 _] | [.int .i16 _] | [.int .i32 _] | [.int .i64 _] | [.int .u16 _] | [.int .u32 _] | [.int .u64 _] => isFalse (by simp [isByte])
  | [.bool _] | [.str _] | [.nilp] | [.ptr _ _ _] | [.rptr _] | [.sl _ _ _] | [.msl _] | [.rsl _ _ _ _] | [.psl _ _ _ _ _] | [.ifm _ _] | [.nilmap] | [.map _] | [.nilfn] | [.fn _ _] | [.bfn _ _] => isFalse (by simp [isByte])
  | _ :: _ :: _ => isFalse (by simp [isByte])
/-! Values are worked out at once -/
def forceN {β : Type} (n : Nat) (K : Nat → β) : β := match n with
  | 0 => K 0
  | m + 1 => K (Nat.succ m)
def forceI {β : Type} (n : Int) (K : Int → β) : β := match n with
  | .ofNat m => forceN m fun m => K (.ofNat m)
  | .negSucc m => forceN m fun m => K (.negSucc m)
def fL {α β : Type} : List α → (List α → β) → β
  | [], K => K []
  | x :: r, K => fL r fun r' => K (x :: r')
def fEs {β : Type} : List (List AC) → (List (List AC) → β) → β
  | [], K => K []
  | x :: r, K => fL x fun x' => fEs r fun r' => K (x' :: r')
def forceC {β : Type} (x : AC) (K : AC → β) : β := match x with
  | .int k n => forceI n fun n => K (.int k n)
  | .bool true => K (.bool true)
  | .bool false => K (.bool false)
  | .str s => fL s fun s => K (.str s)
  | .ptr i j o => forceN i fun i => forceN j fun j => forceN o fun o => K (.ptr i j o)
  | .rptr l => fL l fun l => K (.rptr l)
  | .sl z es c => fL es fun es => match c with
    | .nil => K (.sl z es .nil)
    | .none => K (.sl z es .none)
    | .full => K (.sl z es .full)
    | .tok i => forceN i fun i => K (.sl z es (.tok i))
  | .psl i j o z n => forceN i fun i => forceN j fun j => forceN o fun o => forceN n fun n => K (.psl i j o z n)
  | .rsl i l n f => forceN i fun i => forceN l fun l => forceN n fun n => K (.rsl i l n f)
  | .msl i => forceN i fun i => K (.msl i)
  | .map i => forceN i fun i => K (.map i)
  | .fn f l => fL l fun l => K (.fn f l)
  | x => K x
def forceV {β : Type} (v : AV) (K : AV → β) : β := match v with
  | .c x => forceC x fun x => K (.c x)
  | .agg l => fL l fun l => K (.agg l)
  | .tup l => fL l fun l => K (.tup l)
  | .any => K .any
def forceVs {β : Type} : List AV → (List AV → β) → β
  | [], K => K []
  | x :: r, K => forceV x fun x' => forceVs r fun r' => K (x' :: r')
def forceO {β : Type} (o : AObj) (K : AObj → β) : β := match o with
  | .row es => fEs es fun es => K (.row es)
  | .map es n => fL es fun es => forceN n fun n => K (.map es n)
  | .spare => K .spare
theorem forceN_eq {β : Type} (n : Nat) (K : Nat → β) : forceN n K = K n := by cases n <;> rfl
theorem forceI_eq {β : Type} (n : Int) (K : Int → β) : forceI n K = K n := by cases n <;> simp only [forceI, forceN_eq]
theorem fL_eq {α β : Type} : ∀ (l : List α) (K : List α → β), fL l K = K l
  | [], K => rfl
  | x :: r, K => by simp only [fL, fL_eq r]
theorem fEs_eq {β : Type} : ∀ (l : List (List AC)) (K : List (List AC) → β), fEs l K = K l
  | [], K => rfl
  | x :: r, K => by simp only [fEs, fL_eq, fEs_eq r]
theorem forceC_eq {β : Type} (x : AC) (K : AC → β) : forceC x K = K x := by
  cases x <;> simp only [forceC, forceI_eq, forceN_eq, fL_eq]
  case bool b => cases b <;> rfl
  case sl z es c => cases c <;> simp only [forceN_eq]
theorem forceV_eq {β : Type} (x : AV) (K : AV → β) : forceV x K = K x := by
  cases x <;> simp only [forceV, forceC_eq, fL_eq]
theorem forceVs_eq {β : Type} : ∀ (l : List AV) (K : List AV → β), forceVs l K = K l
  | [], K => rfl
  | x :: r, K => by simp only [forceVs, forceV_eq, forceVs_eq r]
theorem forceO_eq {β : Type} (x : AObj) (K : AObj → β) : forceO x K = K x := by
  cases x <;> simp only [forceO, fEs_eq, forceN_eq, fL_eq]

/-! A slot's value -/
def getE : Env → Nat → AV
  | [], _ => .any
  | (s, v) :: r, t => bif Nat.beq s t then v else getE r t
theorem getE_eq : ∀ (e : Env) (t : Nat), getE e t = get e t
  | [], _ => rfl
  | (s, v) :: r, t => by
    have : Nat.beq s t = (s == t) := by
      by_cases h : s = t
      · subst h; simp
      · have h1 : (s == t) = false := by simpa using h
        rw [h1]
        cases hb : Nat.beq s t with
        | false => rfl
        | true => exact absurd (Nat.eq_of_beq_eq_true hb) h
    simp only [getE, get, this, getE_eq r t]
def evE (e : Env) (x : Opd) : AV := match x with
  | .t n => getE e n
  | .k v => v
theorem evE_eq (e : Env) (x : Opd) : evE e x = x.ev e := by cases x <;> simp only [evE, Opd.ev, getE_eq]
def boundE (env : Env) (d : Nat) (x : Option Opd) : Option Int := match x with
  | none => some d
  | some x => match evE env x with
    | .c (.int _ n) => some n
    | _ => none
theorem boundE_eq (env : Env) (d : Nat) (x : Option Opd) : boundE env d x = bound env d x := by
  cases x with
  | none => rfl
  | some x => simp only [boundE, bound, evE_eq]; rfl
def fillsE (env : Env) : List AC → List (Nat × Nat × Opd) → List AC
  | cs, [] => cs
  | cs, (i, _, x) :: r => fillsE env (lay cs i (evE env x).cells) r
theorem fillsE_eq (env : Env) : ∀ (ps : List (Nat × Nat × Opd)) (cs : List AC), fillsE env cs ps = fills env cs ps
  | [], cs => by simp only [fillsE, fills]
  | (i, z, x) :: r, cs => by simp only [fillsE, fills, evE_eq, fillsE_eq env r]
def fillsOkE (env : Env) (len : Nat) : List (Nat × Nat × Opd) → Bool
  | [] => true
  | (i, sz, x) :: r => Nat.beq (evE env x).cells.length sz && Nat.ble (i + sz) len && fillsOkE env len r
theorem fillsOkE_ok (env : Env) (len : Nat) : ∀ (ps : List (Nat × Nat × Opd)), fillsOkE env len ps = true → fillsOk env len ps
  | [], _ => trivial
  | (i, sz, x) :: r, h => by
    simp only [fillsOkE, Bool.and_eq_true] at h
    refine ⟨?_, Nat.le_of_ble_eq_true h.1.2, fillsOkE_ok env len r h.2⟩
    rw [← evE_eq]; exact Nat.eq_of_beq_eq_true h.1.1

instance fillsOkDec (env : Env) (len : Nat) : ∀ ps, Decidable (fillsOk env len ps)
  | [] => isTrue trivial
  | (i, sz, x) :: r => @instDecidableAnd _ _ (inferInstanceAs (Decidable ((x.ev env).cells.length = sz))) (@instDecidableAnd _ _ (inferInstanceAs (Decidable (i + sz ≤ len))) (fillsOkDec env len r))
instance neNilDec {α : Type} : ∀ l : List α, Decidable (l ≠ [])
  | [] => isFalse (fun h => h rfl)
  | _ :: _ => isTrue (by simp)

/-! A heap as a list, the newest first -/
abbrev T := List (Nat × AObj)
def T.get : T → Nat → Option AObj
  | [], _ => none
  | (k, o) :: r, n => bif Nat.beq k n then some o else T.get r n
def T.den (t : T) : Heap := fun n => t.get n
def T.upd : T → Nat → AObj → T
  | [], n, o => [(n, o)]
  | (k, p) :: r, n, o => bif Nat.beq k n then (n, o) :: r else bif Nat.blt k n then (n, o) :: (k, p) :: r else (k, p) :: T.upd r n o
def T.del : T → Nat → T
  | [], _ => []
  | (k, p) :: r, n => bif Nat.beq k n then T.del r n else (k, p) :: T.del r n
def forceT {β : Type} : T → (T → β) → β
  | [], K => K []
  | (k, o) :: r, K => forceT r fun r' => K ((k, o) :: r')
theorem forceT_eq {β : Type} : ∀ (t : T) (K : T → β), forceT t K = K t
  | [], K => rfl
  | (k, o) :: r, K => by simp only [forceT, forceT_eq r]
def T.updF (t : T) (n : Nat) (o : AObj) : T := forceN n fun n => forceO o fun o => T.upd t n o
theorem T.updF_eq (t : T) (n : Nat) (o : AObj) : t.updF n o = t.upd n o := by simp only [T.updF, forceN_eq, forceO_eq]
def delCpT (t : T) : Cp → T
  | .tok i => t.del i
  | _ => t
theorem T.get_cons (k : Nat) (o : AObj) (r : T) (n : Nat) : T.get ((k, o) :: r) n = if k = n then some o else T.get r n := by
  simp only [T.get]
  by_cases h : k = n
  · subst h; simp
  · have : Nat.beq k n = false := by
      cases hb : Nat.beq k n with
      | false => rfl
      | true => exact absurd (Nat.eq_of_beq_eq_true hb) h
    rw [this, if_neg h]; rfl
theorem T.get_upd : ∀ (t : T) (n : Nat) (o : AObj) (m : Nat), (T.upd t n o).get m = if m = n then some o else t.get m
  | [], n, o, m => by
    simp only [T.upd]
    rw [T.get_cons]
    by_cases h : m = n
    · subst h; simp
    · rw [if_neg (fun e => h e.symm), if_neg h]
  | (k, p) :: r, n, o, m => by
    simp only [T.upd]
    cases hb : Nat.beq k n with
    | true =>
      have := Nat.eq_of_beq_eq_true hb
      subst this
      simp only [cond_true]
      rw [T.get_cons, T.get_cons]
      by_cases h : m = k
      · subst h; simp
      · rw [if_neg (fun e => h e.symm), if_neg h, if_neg (fun e => h e.symm)]
    | false =>
      have hne : k ≠ n := fun e => by subst e; simp at hb
      simp only [cond_false]
      cases hl : Nat.blt k n with
      | true =>
        simp only [cond_true]
        rw [T.get_cons]
        by_cases h : m = n
        · subst h; simp
        · rw [if_neg (fun e => h e.symm), if_neg h]
      | false =>
        simp only [cond_false]
        rw [T.get_cons, T.get_cons, T.get_upd r n o m]
        by_cases h : m = n
        · subst h; rw [if_neg hne, if_pos rfl, if_pos rfl]
        · rw [if_neg h, if_neg h]
theorem T.get_del : ∀ (t : T) (n : Nat) (m : Nat), (T.del t n).get m = if m = n then none else t.get m
  | [], n, m => by simp [T.del, T.get]
  | (k, p) :: r, n, m => by
    simp only [T.del]
    cases hb : Nat.beq k n with
    | true =>
      have := Nat.eq_of_beq_eq_true hb
      subst this
      simp only [cond_true]
      rw [T.get_del r k m, T.get_cons]
      by_cases h : m = k
      · rw [if_pos h, if_pos h]
      · rw [if_neg h, if_neg h, if_neg (fun e => h e.symm)]
    | false =>
      have hne : k ≠ n := fun e => by subst e; simp at hb
      simp only [cond_false]
      rw [T.get_cons, T.get_cons, T.get_del r n m]
      by_cases h : m = n
      · subst h; rw [if_neg hne, if_pos rfl, if_pos rfl]
      · rw [if_neg h, if_neg h]
theorem T.den_upd (t : T) (n : Nat) (o : AObj) : (t.upd n o).den = t.den.upd n o := by
  funext m; exact T.get_upd t n o m
theorem T.den_del (t : T) (n : Nat) : (t.del n).den = t.den.del n := by
  funext m; exact T.get_del t n m
instance cpOkDec (t : T) : ∀ c, Decidable (cpOk t.den c)
  | .none => isFalse (fun h => h)
  | .nil | .full => isTrue trivial
  | .tok i => match h : t.get i with
    | some .spare => isTrue h
    | some (.row _) => isFalse (fun e => by have : t.get i = some .spare := e; rw [h] at this; cases this)
    | some (.map _ _) => isFalse (fun e => by have : t.get i = some .spare := e; rw [h] at this; cases this)
    | none => isFalse (fun e => by have : t.get i = some .spare := e; rw [h] at this; cases this)
def mustC (b : Bool) (v : AV × T × Nat) : Option (AV × T × Nat) := match b with | true => some v | false => none
theorem mustC_some {b : Bool} {u v : AV × T × Nat} (h : mustC b u = some v) : b = true ∧ u = v := by
  cases b with
  | true => exact ⟨rfl, by simpa [mustC] using h⟩
  | false => cases h

def viewE (sz : Nat) (h : Heap) : AC → Option (List (List AC))
  | .sl sz' es _ => mustL (decide (sz' = sz)) (es)
  | .str s => mustL (decide (sz = 1)) (bytesAC s)
  | .msl id => match h id with
    | some (.row es) => mustL (decide (es.all (fun e => e.length == sz) = true)) (es)
    | _ => none
  | .rsl id lo n _ => match h id with
    | some (.row es) => mustL (decide (lo + n ≤ es.length ∧ es.all (fun e => e.length == sz) = true)) ((es.drop lo).take n)
    | _ => none
  | .psl id i off sz' n => match h id with
    | some (.row es) => match es[i]? with
      | some e => mustL (decide (sz' = sz ∧ off + n * sz ≤ e.length)) (groups sz n (e.drop off))
      | none => none
    | _ => none
  | _ => none
def kindN (k : IntKind) : Nat := match k with
  | .i8 => 0 | .i16 => 1 | .i32 => 2 | .i64 => 3 | .u8 => 4 | .u16 => 5 | .u32 => 6 | .u64 => 7
def kindB (k k' : IntKind) : Bool := Nat.beq (kindN k) (kindN k')
theorem kindB_eq {k k' : IntKind} (h : kindB k k' = true) : k = k' := by
  cases k <;> cases k' <;> first | rfl | (exact absurd h (by decide))
def intsE (F : IntKind → Int → Int → Option AV) (x y : AV) : Option AV := match x, y with
  | .c (.int k a), .c (.int k' b) => bif kindB k k' then F k a b else none
  | _, _ => none
def intsE2 (F : IntKind → Int → Int → Option AV) (x y : AV) : Option AV := match x, y with
  | .c (.int k a), .c (.int _ b) => F k a b
  | _, _ => none
def boolsE (F : Bool → Bool → AV) (x y : AV) : Option AV := match x, y with
  | .c (.bool a), .c (.bool b) => some (F a b)
  | _, _ => none
def strsE (F : List UInt8 → List UInt8 → Option AV) (x y : AV) : Option AV := match x, y with
  | .c (.str a), .c (.str b) => F a b
  | _, _ => none
def nilsE (neg : Bool) (x y : AV) : Option AV := match x with
  | .c x => match isNil x y with
    | some b => some (.c (.bool (bif neg then !b else b)))
    | none => none
  | _ => none
def bnE (f : BOp) (x y : AV) : Option AV :=
  match f with
  | .add => intsE (fun k a b => some (.c (.int k (wrapE k (a + b))))) x y
  | .sub => intsE (fun k a b => some (.c (.int k (wrapE k (a - b))))) x y
  | .mul => intsE (fun k a b => some (.c (.int k (wrapE k (a * b))))) x y
  | .quo => intsE (fun k a b => must (decide (b ≠ 0)) (.c (.int k (wrapE k (a.tdiv b))))) x y
  | .rem => intsE (fun k a b => must (decide (b ≠ 0)) (.c (.int k (a.tmod b)))) x y
  | .and => intsE (fun k a b => some (.c (.int k (bitE .and k a b)))) x y
  | .or => intsE (fun k a b => some (.c (.int k (bitE .or k a b)))) x y
  | .xor => intsE (fun k a b => some (.c (.int k (bitE .xor k a b)))) x y
  | .andNot => intsE (fun k a b => some (.c (.int k (bitE .andNot k a b)))) x y
  | .shl => intsE2 (fun k a b => must (decide (0 ≤ b)) (.c (.int k (wrapE k (a * ((2 ^ (min b.toNat k.bits) : Nat) : Int)))))) x y
  | .shr => intsE2 (fun k a b => must (decide (0 ≤ b)) (.c (.int k (a.fdiv ((2 ^ (min b.toNat k.bits) : Nat) : Int))))) x y
  | .eq => intsE (fun _ a b => some (.c (.bool (a == b)))) x y
  | .ne => intsE (fun _ a b => some (.c (.bool (a != b)))) x y
  | .lt => intsE (fun _ a b => some (.c (.bool (decide (a < b))))) x y
  | .le => intsE (fun _ a b => some (.c (.bool (decide (a ≤ b))))) x y
  | .gt => intsE (fun _ a b => some (.c (.bool (decide (a > b))))) x y
  | .ge => intsE (fun _ a b => some (.c (.bool (decide (a ≥ b))))) x y
  | .eqb => boolsE (fun a b => .c (.bool (a == b))) x y
  | .neb => boolsE (fun a b => .c (.bool !(a == b))) x y
  | .sadd => strsE (fun a b => must (decide (((a.length + b.length : Nat) : Int) ≤ 9223372036854775807)) (.c (.str (a ++ b)))) x y
  | .seq => strsE (fun a b => some (.c (.bool (a == b)))) x y
  | .sne => strsE (fun a b => some (.c (.bool !(a == b)))) x y
  | .slt => strsE (fun a b => some (.c (.bool (Op.bytesLess a b)))) x y
  | .sle => strsE (fun a b => some (.c (.bool (Op.bytesLess a b || a == b)))) x y
  | .sgt => strsE (fun a b => some (.c (.bool !(Op.bytesLess a b || a == b)))) x y
  | .sge => strsE (fun a b => some (.c (.bool !(Op.bytesLess a b)))) x y
  | .eqnil => nilsE false x y
  | .nenil => nilsE true x y

def partE (ag : Bool) (sz : Nat) (cs : List AC) (off : Nat) : Option AV :=
  if ag then must (decide (off + sz ≤ cs.length)) (.agg ((cs.drop off).take sz))
  else match cs[off]? with
    | some c => some (.c c)
    | none => none

def ldE (ag : Bool) (sz : Nat) (h : Heap) : AV → Option AV
  | .c (.rptr cs) => partE ag sz cs 0
  | .c (.ptr id i off) => match h id with
    | some (.row es) => match es[i]? with
      | some e => partE ag sz e off
      | none => none
    | _ => none
  | _ => none
def lenE (h : Heap) : AV → Option AV
  | .c (.sl _ es _) => some (int64 es.length)
  | .c (.msl id) => match h id with
    | some (.row es) => some (int64 es.length)
    | _ => none
  | .c (.rsl _ _ n _) => some (int64 n)
  | .c (.psl _ _ _ _ n) => some (int64 n)
  | _ => none
def mlenE (h : Heap) : AV → Option AV
  | .c .nilmap => some (int64 0)
  | .c (.map id) => match h id with
    | some (.map es _) => some (int64 es.length)
    | _ => none
  | _ => none
def iadrE (sz : Nat) (h : Heap) : AV → AV → Option AV
  | .c (.sl sz' es _), .c (.int _ n) => must (decide (sz' = sz ∧ 0 ≤ n ∧ n < es.length)) (.c (.rptr (es.getD n.toNat [])))
  | .c (.msl id), .c (.int _ n) => match h id with
    | some (.row es) => must (decide (es.all (fun e => e.length == sz) = true ∧ 0 ≤ n ∧ n < es.length)) (.c (.ptr id n.toNat 0))
    | _ => none
  | .c (.rsl id lo m _), .c (.int _ n) => match h id with
    | some (.row es) => must (decide (es.all (fun e => e.length == sz) = true ∧ lo + m ≤ es.length ∧ 0 ≤ n ∧ n < m)) (.c (.ptr id (lo + n.toNat) 0))
    | _ => none
  | .c (.psl id i off sz' m), .c (.int _ n) => must (decide (sz' = sz ∧ 0 ≤ n ∧ n < m)) (.c (.ptr id i (off + n.toNat * sz)))
  | _, _ => none
def lookE (ok : Bool) (ks : Ksh) (zero : AV) (h : Heap) (x k : AV) : Option AV :=
  match x with
  | .c .nilmap => must (decide (fitsV ks k = true)) (lookR ok zero none)
  | .c (.map id) => match h id with
    | some (.map es _) => must (decide (fitsV ks k = true ∧ keysFit ks es = true)) (lookR ok zero (findM k.cells es))
    | _ => none
  | _ => none

def flE_mv (x : Opd) (env : Env) (h : Heap) : Option AV :=
  some (evE env x)
def flE_sconv (x : Opd) (env : Env) (h : Heap) : Option AV :=
  match evE env x with
    | .c (.str s) => some (.c (.str s))
    | _ => none
def flE_pick (c : Opd) (a : Opd) (b : Opd) (env : Env) (h : Heap) : Option AV :=
  match evE env c with
    | .c (.bool t) => some (bif t then evE env a else evE env b)
    | _ => none
def flE_bin (f : BOp) (x : Opd) (y : Opd) (env : Env) (h : Heap) : Option AV :=
  bnE f (evE env x) (evE env y)
def flE_not (x : Opd) (env : Env) (h : Heap) : Option AV :=
  match evE env x with
    | .c (.bool b) => some (.c (.bool !b))
    | _ => none
def flE_neg (x : Opd) (env : Env) (h : Heap) : Option AV :=
  match evE env x with
    | .c (.int k n) => some (.c (.int k (wrapE k (0 - n))))
    | _ => none
def flE_inv (x : Opd) (env : Env) (h : Heap) : Option AV :=
  match evE env x with
    | .c (.int k n) => some (.c (.int k (bitE .xor k (if k.signed then -1 else k.max) n)))
    | _ => none
def flE_conv (k : IntKind) (x : Opd) (env : Env) (h : Heap) : Option AV :=
  match evE env x with
    | .c (.int _ n) => some (.c (.int k (wrapE k n)))
    | _ => none
def flE_nilck (x : Opd) (env : Env) (h : Heap) : Option AV :=
  match evE env x with
    | .c (.ptr i j o) => some (.c (.ptr i j o))
    | .c (.rptr cs) => some (.c (.rptr cs))
    | _ => none
def flE_fadr (off : Nat) (x : Opd) (env : Env) (h : Heap) : Option AV :=
  match evE env x with
    | .c (.ptr i j o) => some (.c (.ptr i j (o + off)))
    | .c (.rptr cs) => some (.c (.rptr (cs.drop off)))
    | _ => none
def flE_fld (ag : Bool) (sz : Nat) (off : Nat) (x : Opd) (env : Env) (h : Heap) : Option AV :=
  match evE env x with
    | .agg cs => partE ag sz cs off
    | _ => none
def flE_build (zero : List AC) (ps : List (Nat × Nat × Opd)) (env : Env) (h : Heap) : Option AV :=
  must (decide (fillsOkE env zero.length ps)) (.agg (fillsE env zero ps))
def flE_iadr (sz : Nat) (x : Opd) (i : Opd) (env : Env) (h : Heap) : Option AV :=
  iadrE sz h (evE env x) (evE env i)
def flE_iarr (sz : Nat) (len : Nat) (x : Opd) (i : Opd) (env : Env) (h : Heap) : Option AV :=
  match evE env x, evE env i with
    | .c (.rptr cs), .c (.int _ n) => must (decide (0 ≤ n ∧ n < len)) (.c (.rptr (cs.drop (n.toNat * sz))))
    | .c (.ptr id j o), .c (.int _ n) => must (decide (0 ≤ n ∧ n < len)) (.c (.ptr id j (o + n.toNat * sz)))
    | _, _ => none
def flE_idx (ag : Bool) (len : Nat) (sz : Nat) (x : Opd) (i : Opd) (env : Env) (h : Heap) : Option AV :=
  match evE env x, evE env i with
    | .agg cs, .c (.int _ n) => match partE ag sz cs (n.toNat * sz) with
      | some v => must (decide (0 ≤ n ∧ n < len)) v
      | none => none
    | _, _ => none
def flE_sidx (x : Opd) (i : Opd) (env : Env) (h : Heap) : Option AV :=
  match evE env x, evE env i with
    | .c (.str s), .c (.int _ n) => must (decide (0 ≤ n ∧ n < s.length)) (.c (.int .u8 (s.getD n.toNat 0).toNat))
    | _, _ => none
def flE_sslice (x : Opd) (lo : Option Opd) (hi : Option Opd) (env : Env) (h : Heap) : Option AV :=
  match evE env x with
    | .c (.str s) => match boundE env 0 lo, boundE env s.length hi with
      | some l, some u => must (decide (0 ≤ l ∧ l ≤ u ∧ u ≤ s.length)) (.c (.str ((s.take u.toNat).drop l.toNat)))
      | _, _ => none
    | _ => none
def flE_slice (sz : Nat) (x : Opd) (lo : Option Opd) (hi : Option Opd) (mx : Option Opd) (env : Env) (h : Heap) : Option AV :=
  match evE env x with
    | .c (.sl sz' es c) => match boundE env 0 lo, boundE env es.length hi, boundE env es.length mx with
      | some l, some u, some m => must (decide (sz' = sz ∧ 0 ≤ l ∧ l ≤ u ∧ u ≤ es.length ∧ (mx.isSome = true → u = m))) (.c (.sl sz ((es.take u.toNat).drop l.toNat) (bif mx.isSome then .full else .none)))
      | _, _, _ => none
    | .c (.msl id) => match h id with
      | some (.row es) => match boundE env 0 lo, boundE env es.length hi, boundE env es.length mx with
        | some l, some u, some m => must (decide (es.all (fun e => e.length == sz) = true ∧ 0 ≤ l ∧ l ≤ u ∧ u ≤ es.length ∧ (mx.isSome = true → u = m))) (.c (.rsl id l.toNat (u - l).toNat mx.isSome))
        | _, _, _ => none
      | _ => none
    | .c (.rsl id lo0 n f) => match h id with
      | some (.row es) => match boundE env 0 lo, boundE env n hi, boundE env n mx with
        | some l, some u, some m => must (decide (es.all (fun e => e.length == sz) = true ∧ lo0 + n ≤ es.length ∧ 0 ≤ l ∧ l ≤ u ∧ u ≤ n ∧ (mx.isSome = true → u = m))) (.c (.rsl id (lo0 + l.toNat) (u - l).toNat (mx.isSome || (f && hi.isNone))))
        | _, _, _ => none
      | _ => none
    | .c (.psl id i off sz' n) => match boundE env 0 lo, boundE env n hi with
      | some l, some u => must (decide (sz' = sz ∧ mx.isNone = true ∧ 0 ≤ l ∧ l ≤ u ∧ u ≤ n)) (.c (.psl id i (off + l.toNat * sz) sz (u - l).toNat))
      | _, _ => none
    | _ => none
def flE_aslice (sz : Nat) (n : Nat) (x : Opd) (env : Env) (h : Heap) : Option AV :=
  match evE env x with
    | .c (.rptr cs) => must (decide (n * sz ≤ cs.length)) (.c (.sl sz (groups sz n cs) .full))
    | .c (.ptr id i off) => some (.c (.psl id i off sz n))
    | _ => none
def flE_aslc (sz : Nat) (n : Nat) (x : Opd) (lo : Option Opd) (hi : Option Opd) (env : Env) (h : Heap) : Option AV :=
  match boundE env 0 lo, boundE env n hi with
    | some l, some u => match evE env x with
      | .c (.rptr cs) => must (decide (n * sz ≤ cs.length ∧ 0 ≤ l ∧ l ≤ u ∧ u ≤ n)) (.c (.sl sz (((groups sz n cs).take u.toNat).drop l.toNat) .none))
      | .c (.ptr id i off) => must (decide (0 ≤ l ∧ l ≤ u ∧ u ≤ n)) (.c (.psl id i (off + l.toNat * sz) sz (u - l).toNat))
      | _ => none
    | _, _ => none
def flE_len (x : Opd) (env : Env) (h : Heap) : Option AV :=
  lenE h (evE env x)
def flE_slen (x : Opd) (env : Env) (h : Heap) : Option AV :=
  match evE env x with
    | .c (.str s) => some (int64 s.length)
    | _ => none
def flE_mlen (x : Opd) (env : Env) (h : Heap) : Option AV :=
  mlenE h (evE env x)
def flE_alen (n : Nat) (x1_ : Opd) (env : Env) (h : Heap) : Option AV :=
  some (int64 n)
def flE_extract (i : Nat) (x : Opd) (env : Env) (h : Heap) : Option AV :=
  match evE env x with
    | .tup xs => match xs[i]? with
      | some v => some (v)
      | none => none
    | _ => none
def flE_load (ag : Bool) (sz : Nat) (x : Opd) (env : Env) (h : Heap) : Option AV :=
  ldE ag sz h (evE env x)
def flE_boxR (x : Opd) (env : Env) (h : Heap) : Option AV :=
  match evE env x with
    | .c v => some (.c (.rptr [v]))
    | .agg cs => some (.c (.rptr cs))
    | _ => none
def flE_slR (sz : Nat) (n : Nat) (zero : List AC) (ps : List (Nat × Nat × Opd)) (env : Env) (h : Heap) : Option AV :=
  must (decide (fillsOkE env zero.length ps)) (.c (.sl sz (groups sz n (fillsE env zero ps)) .full))
def flE_slE (sz : Nat) (env : Env) (h : Heap) : Option AV :=
  some (.c (.sl sz [] .full))
def flE_sbytes (x : Opd) (env : Env) (h : Heap) : Option AV :=
  match evE env x with
    | .c (.str s) => some (.c (.sl 1 (bytesAC s) .none))
    | _ => none
def flE_bytess (x : Opd) (env : Env) (h : Heap) : Option AV :=
  match evE env x with
    | .c (.sl _ es _) => must (decide (∀ e ∈ es, isByte e)) (.c (.str (es.map byteOf)))
    | .c (.msl id) => match h id with
      | some (.row es) => must (decide (∀ e ∈ es, isByte e)) (.c (.str (es.map byteOf)))
      | _ => none
    | .c (.psl id i off sz n) => match viewE 1 h (.psl id i off sz n) with
      | some es => must (decide (∀ e ∈ es, isByte e)) (.c (.str (es.map byteOf)))
      | none => none
    | _ => none
def flE_aeq (neg : Bool) (ks : Ksh) (x : Opd) (y : Opd) (env : Env) (h : Heap) : Option AV :=
  must (decide (fitsV ks (evE env x) = true ∧ fitsV ks (evE env y) = true)) (.c (.bool (neg ^^ eqL (evE env x).cells (evE env y).cells)))
def flE_mm (mx : Bool) (x : Opd) (y : Opd) (env : Env) (h : Heap) : Option AV :=
  match evE env x, evE env y with
    | .c (.int k a), .c (.int k' b) => must (decide (k = k')) (.c (.int k (bif mx then (if b > a then b else a) else (if b < a then b else a))))
    | _, _ => none
def flE_lookup (ok : Bool) (ks : Ksh) (zero : AV) (x : Opd) (k : Opd) (env : Env) (h : Heap) : Option AV :=
  lookE ok ks zero h (evE env x) (evE env k)
def flE_mkif (t : TypeId) (x : Opd) (env : Env) (h : Heap) : Option AV :=
  match evE env x with
    | .c (.map id) => some (.c (.ifm t id))
    | _ => none
def flE_tas (t : TypeId) (x : Opd) (env : Env) (h : Heap) : Option AV :=
  match evE env x with
    | .c (.ifm t' id) => must (decide (t' = t)) (.c (.map id))
    | _ => none
def flE_mkfn (f : Nat) (caps : List Opd) (env : Env) (h : Heap) : Option AV :=
  must (decide ((caps.map (evE env)).all avOk1 = true ∧ (caps.map (evE env)).all isC = true)) (.c (.fn f ((caps.map (evE env)).flatMap AV.cells)))
def flE_mkbfn (f : Nat) (caps : List Opd) (env : Env) (h : Heap) : Option AV :=
  must (decide ((caps.map (evE env)).all avOk1 = true ∧ (caps.map (evE env)).all isC = true)) (.c (.bfn f ((caps.map (evE env)).flatMap AV.cells)))
def flE (o : AOp) (env : Env) (h : Heap) : Option AV :=
  match o with
  | .mv x => flE_mv x env h
  | .sconv x => flE_sconv x env h
  | .pick c a b => flE_pick c a b env h
  | .bin f x y => flE_bin f x y env h
  | .not x => flE_not x env h
  | .neg x => flE_neg x env h
  | .inv x => flE_inv x env h
  | .conv k x => flE_conv k x env h
  | .nilck x => flE_nilck x env h
  | .fadr off x => flE_fadr off x env h
  | .fld ag sz off x => flE_fld ag sz off x env h
  | .build zero ps => flE_build zero ps env h
  | .iadr sz x i => flE_iadr sz x i env h
  | .iarr sz len x i => flE_iarr sz len x i env h
  | .idx ag len sz x i => flE_idx ag len sz x i env h
  | .sidx x i => flE_sidx x i env h
  | .sslice x lo hi => flE_sslice x lo hi env h
  | .slice sz x lo hi mx => flE_slice sz x lo hi mx env h
  | .aslice sz n x => flE_aslice sz n x env h
  | .aslc sz n x lo hi => flE_aslc sz n x lo hi env h
  | .len x => flE_len x env h
  | .slen x => flE_slen x env h
  | .mlen x => flE_mlen x env h
  | .alen n x1_ => flE_alen n x1_ env h
  | .extract i x => flE_extract i x env h
  | .load ag sz x => flE_load ag sz x env h
  | .boxR x => flE_boxR x env h
  | .slR sz n zero ps => flE_slR sz n zero ps env h
  | .slE sz => flE_slE sz env h
  | .sbytes x => flE_sbytes x env h
  | .bytess x => flE_bytess x env h
  | .aeq neg ks x y => flE_aeq neg ks x y env h
  | .mm mx x y => flE_mm mx x y env h
  | .lookup ok ks zero x k => flE_lookup ok ks zero x k env h
  | .mkif t x => flE_mkif t x env h
  | .tas t x => flE_tas t x env h
  | .mkfn f caps => flE_mkfn f caps env h
  | .mkbfn f caps => flE_mkbfn f caps env h
  | _ => none

def chE_asg (x : Opd) (env : Env) (t : T) (n : Nat) : Option (AV × T × Nat) :=
  some (evE env x, t, n)
def chE_box (x : Opd) (env : Env) (t : T) (n : Nat) : Option (AV × T × Nat) :=
  match evE env x with
    | .c v => some (.c (.ptr n 0 0), t.updF n (.row [[v]]), n + 1)
    | .agg cs => some (.c (.ptr n 0 0), t.updF n (.row [cs]), n + 1)
    | _ => none
def chE_alloc (zero : List AC) (env : Env) (t : T) (n : Nat) : Option (AV × T × Nat) :=
  some (.c (.ptr n 0 0), t.updF n (.row [zero]), n + 1)
def chE_app (sz : Nat) (bytes : Nat) (s : Opd) (x : Opd) (env : Env) (t : T) (n : Nat) : Option (AV × T × Nat) :=
  match evE env x with
    | .c xx => match viewE sz t.den xx with
      | some ys => match evE env s with
        | .c (.sl sz' es c) =>
          mustC (decide (sz' = sz ∧ (ys.isEmpty = true ∨ (cpOk t.den c ∧ (es.length + ys.length) * bytes ≤ 2 ^ 47)))) (.c (.sl sz (es ++ ys) (bif ys.isEmpty then c else .tok n)), bif ys.isEmpty then t else (delCpT t c).updF n .spare, bif ys.isEmpty then n else n + 1)
        | .c (.msl id) => match t.get id with
          | some (.row es) => mustC (decide (es ≠ [] ∧ (∀ e ∈ es, e.length = sz) ∧ (es.length + ys.length) * bytes ≤ 2 ^ 47)) (.c (.msl n), (t.del id).updF n (.row (es ++ ys)), n + 1)
          | _ => none
        | _ => none
      | none => none
    | _ => none
def chE_appM (sz : Nat) (bytes : Nat) (s : Opd) (x : Opd) (env : Env) (t : T) (n : Nat) : Option (AV × T × Nat) :=
  match evE env x with
    | .c xx => match viewE sz t.den xx with
      | some ys => match evE env s with
        | .c (.msl id) => match t.get id with
          | some (.row es) => mustC (decide (es ≠ [] ∧ (∀ e ∈ es, e.length = sz) ∧ (es.length + ys.length) * bytes ≤ 2 ^ 47)) (.c (.msl n), (t.del id).updF n (.row (es ++ ys)), n + 1)
          | _ => none
        | .c (.sl sz' es .nil) => mustC (decide (sz' = sz ∧ (ys.isEmpty = true ∨ (es.length + ys.length) * bytes ≤ 2 ^ 47))) (bif ys.isEmpty then .c (.sl sz' es .nil) else .c (.msl n), bif ys.isEmpty then t else t.updF n (.row (es ++ ys)), bif ys.isEmpty then n else n + 1)
        | .c (.sl sz' es .full) => mustC (decide (sz' = sz ∧ (ys.isEmpty = true ∨ (es.length + ys.length) * bytes ≤ 2 ^ 47))) (bif ys.isEmpty then .c (.sl sz' es .full) else .c (.msl n), bif ys.isEmpty then t else t.updF n (.row (es ++ ys)), bif ys.isEmpty then n else n + 1)
        | .c (.rsl id lo m true) => match viewE sz t.den (.rsl id lo m true) with
          | some es => mustC (decide ((ys.isEmpty = true ∨ (es.length + ys.length) * bytes ≤ 2 ^ 47))) (bif ys.isEmpty then .c (.rsl id lo m true) else .c (.msl n), bif ys.isEmpty then t else t.updF n (.row (es ++ ys)), bif ys.isEmpty then n else n + 1)
          | none => none
        | _ => none
      | none => none
    | _ => none
def chE_mksl (m : Bool) (sz : Nat) (bytes : Nat) (zero : List AC) (l : Opd) (c : Opd) (env : Env) (t : T) (n : Nat) : Option (AV × T × Nat) :=
  match evE env l, evE env c with
    | .c (.int _ a), .c (.int _ b) => mustC (decide (0 ≤ a ∧ a ≤ b ∧ b.toNat * bytes ≤ 2 ^ 47)) (bif m then .c (.msl n) else .c (.sl sz (List.replicate a.toNat zero) (.tok n)), t.updF n (bif m then .row (List.replicate a.toNat zero) else .spare), n + 1)
    | _, _ => none
def chE_cpy (sz : Nat) (x : Opd) (y : Opd) (env : Env) (t : T) (n : Nat) : Option (AV × T × Nat) :=
  match evE env y with
    | .c yy => match viewE sz t.den yy with
      | some ys => match evE env x with
        | .c (.psl id i off sz' m) => match t.get id with
          | some (.row es) => match es[i]? with
            | some e => mustC (decide (sz' = sz ∧ off + m * sz ≤ e.length)) (int64 ((min ys.length m : Nat) : Int), t.updF id (.row (es.set i (lay e off (ys.take m).flatten))), n)
            | none => none
          | _ => none
        | _ => none
      | none => none
    | _ => none
def chE_mkmap  (env : Env) (t : T) (n : Nat) : Option (AV × T × Nat) :=
  some (.c (.map n), t.updF n (.map [] 0), n + 1)
def chE_mupd (ks : Ksh) (x : Opd) (k : Opd) (v : Opd) (env : Env) (t : T) (n : Nat) : Option (AV × T × Nat) :=
  match evE env x with
    | .c (.map id) => match t.get id with
      | some (.map es ck) => mustC (decide (fitsV ks (evE env k) = true ∧ avOk1 (evE env v) = true ∧ keysFit ks es = true)) (.tup [], t.updF id (mupdM (evE env k) (evE env v) es ck), n)
      | _ => none
    | _ => none
def chE_mdel (ks : Ksh) (x : Opd) (k : Opd) (env : Env) (t : T) (n : Nat) : Option (AV × T × Nat) :=
  match evE env x with
    | .c .nilmap => mustC (decide (fitsV ks (evE env k) = true)) (.tup [], t, n)
    | .c (.map id) => match t.get id with
      | some (.map es ck) => mustC (decide (fitsV ks (evE env k) = true ∧ keysFit ks es = true)) (.tup [], t.updF id (.map (delM (evE env k).cells es) ck), n)
      | _ => none
    | _ => none
def chE_mentry (ks : Ksh) (zero : AV) (x : Opd) (k : Opd) (env : Env) (t : T) (n : Nat) : Option (AV × T × Nat) :=
  match evE env x with
    | .c (.map id) => match t.get id with
      | some (.map es ck) => match findM (evE env k).cells es with
        | some (v, b) => mustC (decide (fitsV ks (evE env k) = true ∧ keysFit ks es = true)) (.tup [v, int64 b], t.updF id (.map (putM (evE env k) (fun v => v) es) ck), n)
        | none => mustC (decide (fitsV ks (evE env k) = true ∧ keysFit ks es = true)) (.tup [zero, int64 ck], t.updF id (.map (es ++ [(evE env k, zero, ck)]) (ck + 1)), n)
      | _ => none
    | _ => none
def chE_estore (x : Opd) (s : Opd) (v : Opd) (env : Env) (t : T) (n : Nat) : Option (AV × T × Nat) :=
  match evE env x, evE env s with
    | .c (.map id), .c (.int _ b) => match t.get id with
      | some (.map es ck) => match bornM (evE env v) b.toNat es with
        | some es' => mustC (decide (0 ≤ b ∧ avOk1 (evE env v) = true)) (.tup [], t.updF id (.map es' ck), n)
        | none => none
      | _ => none
    | _, _ => none
def chE_mclone (x : Opd) (env : Env) (t : T) (n : Nat) : Option (AV × T × Nat) :=
  match evE env x with
    | .c (.ifm ty id) => match t.get id with
      | some (.map es ck) => some (.c (.ifm ty n), t.updF n (.map es ck), n + 1)
      | _ => none
    | _ => none
def chE_slM (sz : Nat) (k : Nat) (zero : List AC) (ps : List (Nat × Nat × Opd)) (env : Env) (t : T) (n : Nat) : Option (AV × T × Nat) :=
  mustC (decide (fillsOkE env zero.length ps)) (.c (.msl n), t.updF n (.row (groups sz k (fillsE env zero ps))), n + 1)
def chE_frz (sz : Nat) (x : Opd) (env : Env) (t : T) (n : Nat) : Option (AV × T × Nat) :=
  match evE env x with
    | .c (.msl id) => match t.get id with
      | some (.row es) => mustC (decide (es ≠ [] ∧ (∀ e ∈ es, e.length = sz))) (.c (.sl sz es (.tok id)), t.updF id .spare, n)
      | _ => none
    | _ => none
def chE_store (sz : Nat) (x : Opd) (y : Opd) (env : Env) (t : T) (n : Nat) : Option (AV × T × Nat) :=
  match evE env x with
    | .c (.ptr id i off) => match t.get id with
      | some (.row es) => match es[i]? with
        | some e => match evE env y with
          | .c v => mustC (decide (sz = 1 ∧ off < e.length)) (.tup [], t.updF id (.row (es.set i (e.set off v))), n)
          | .agg vs => mustC (decide (vs.length = sz ∧ off + sz ≤ e.length)) (.tup [], t.updF id (.row (es.set i (lay e off vs))), n)
          | _ => none
        | none => none
      | _ => none
    | _ => none
def chE (o : AOp) (env : Env) (t : T) (n : Nat) : Option (AV × T × Nat) :=
  match o with
  | .asg x => chE_asg x env t n
  | .box x => chE_box x env t n
  | .alloc zero => chE_alloc zero env t n
  | .app sz bytes s x => chE_app sz bytes s x env t n
  | .appM sz bytes s x => chE_appM sz bytes s x env t n
  | .mksl m sz bytes zero l c => chE_mksl m sz bytes zero l c env t n
  | .cpy sz x y => chE_cpy sz x y env t n
  | .mkmap  => chE_mkmap  env t n
  | .mupd ks x k v => chE_mupd ks x k v env t n
  | .mdel ks x k => chE_mdel ks x k env t n
  | .mentry ks zero x k => chE_mentry ks zero x k env t n
  | .estore x s v => chE_estore x s v env t n
  | .mclone x => chE_mclone x env t n
  | .slM sz k zero ps => chE_slM sz k zero ps env t n
  | .frz sz x => chE_frz sz x env t n
  | .store sz x y => chE_store sz x y env t n
  | _ => none

theorem funEvE_eq (env : Env) : evE env = fun x : Opd => x.ev env := funext fun x => evE_eq env x

/-! What is decided holds -/
theorem viewE_ok {sz : Nat} {h : Heap} {x : AC} {es : List (List AC)} (H : viewE sz h x = some es) : ∃ p, viewV sz h x = some (p, es) ∧ p := by
  cases x
  case sl z l c => obtain ⟨h1, rfl⟩ := mustL_some H; exact ⟨_, rfl, of_decide_eq_true h1⟩
  case str s => obtain ⟨h1, rfl⟩ := mustL_some H; exact ⟨_, rfl, of_decide_eq_true h1⟩
  case msl id =>
    simp only [viewE, viewV] at H ⊢
    cases hid : h id <;> simp only [hid] at H ⊢ <;> (try (cases H; done))
    rename_i o
    cases o <;> simp only at H ⊢ <;> (try (cases H; done))
    obtain ⟨h1, rfl⟩ := mustL_some H
    exact ⟨_, rfl, of_decide_eq_true h1⟩
  case rsl id lo n f =>
    simp only [viewE, viewV] at H ⊢
    cases hid : h id <;> simp only [hid] at H ⊢ <;> (try (cases H; done))
    rename_i o
    cases o <;> simp only at H ⊢ <;> (try (cases H; done))
    obtain ⟨h1, rfl⟩ := mustL_some H
    exact ⟨_, rfl, of_decide_eq_true h1⟩
  case psl id i off sz' n =>
    simp only [viewE, viewV] at H ⊢
    cases hid : h id <;> simp only [hid] at H ⊢ <;> (try (cases H; done))
    rename_i o
    cases o <;> simp only at H ⊢ <;> (try (cases H; done))
    rename_i r
    cases hr : r[i]? <;> simp only [hr] at H ⊢ <;> (try (cases H; done))
    obtain ⟨h1, rfl⟩ := mustL_some H
    exact ⟨_, rfl, of_decide_eq_true h1⟩
  all_goals (cases H; done)

theorem intsE_ok {F : IntKind → Int → Int → Option AV} {x y v : AV} (H : intsE F x y = some v) : ∃ k a b, x = .c (.int k a) ∧ y = .c (.int k b) ∧ F k a b = some v := by
  unfold intsE at H
  split at H
  · rename_i k a k' b
    cases hk : kindB k k' with
    | false => rw [hk] at H; cases H
    | true => rw [hk] at H; have := kindB_eq hk; subst this; exact ⟨_, _, _, rfl, rfl, H⟩
  · cases H
theorem intsE2_ok {F : IntKind → Int → Int → Option AV} {x y v : AV} (H : intsE2 F x y = some v) : ∃ k k' a b, x = .c (.int k a) ∧ y = .c (.int k' b) ∧ F k a b = some v := by
  unfold intsE2 at H
  split at H
  · exact ⟨_, _, _, _, rfl, rfl, H⟩
  · cases H
theorem boolsE_ok {F : Bool → Bool → AV} {x y v : AV} (H : boolsE F x y = some v) : ∃ a b, x = .c (.bool a) ∧ y = .c (.bool b) ∧ F a b = v := by
  unfold boolsE at H
  split at H
  · exact ⟨_, _, rfl, rfl, by simpa using H⟩
  · cases H
theorem strsE_ok {F : List UInt8 → List UInt8 → Option AV} {x y v : AV} (H : strsE F x y = some v) : ∃ a b, x = .c (.str a) ∧ y = .c (.str b) ∧ F a b = some v := by
  unfold strsE at H
  split at H
  · exact ⟨_, _, rfl, rfl, H⟩
  · cases H
theorem nilsE_ok {neg : Bool} {x y v : AV} (H : nilsE neg x y = some v) : ∃ z b, x = .c z ∧ isNil z y = some b ∧ v = .c (.bool (bif neg then !b else b)) := by
  unfold nilsE at H
  split at H
  · split at H
    · rename_i z b hb; exact ⟨_, _, rfl, hb, by simpa using H.symm⟩
    · cases H
  · cases H

theorem bnE_ok {f : BOp} {x y v : AV} (H : bnE f x y = some v) : ∃ c, bn f x y = some (c, v) ∧ c := by
  cases f <;> simp only [bnE] at H
  case shl =>
    obtain ⟨k, k', a, b, rfl, rfl, h⟩ := intsE2_ok H
    obtain ⟨h1, rfl⟩ := must_some h
    simp only [wrapE_eq, Int.natCast_pow, Int.cast_ofNat_Int]
    exact ⟨_, rfl, of_decide_eq_true h1⟩
  case shr =>
    obtain ⟨k, k', a, b, rfl, rfl, h⟩ := intsE2_ok H
    obtain ⟨h1, rfl⟩ := must_some h
    simp only [Int.natCast_pow, Int.cast_ofNat_Int]
    exact ⟨_, rfl, of_decide_eq_true h1⟩
  case quo =>
    obtain ⟨k, a, b, rfl, rfl, h⟩ := intsE_ok H
    obtain ⟨h1, rfl⟩ := must_some h
    rw [wrapE_eq]
    exact ⟨_, rfl, rfl, of_decide_eq_true h1⟩
  case rem =>
    obtain ⟨k, a, b, rfl, rfl, h⟩ := intsE_ok H
    obtain ⟨h1, rfl⟩ := must_some h
    exact ⟨_, rfl, rfl, of_decide_eq_true h1⟩
  case sadd =>
    obtain ⟨a, b, rfl, rfl, h⟩ := strsE_ok H
    obtain ⟨h1, rfl⟩ := must_some h
    exact ⟨_, rfl, of_decide_eq_true h1⟩
  case eqnil =>
    obtain ⟨z, b, rfl, h1, rfl⟩ := nilsE_ok H
    exact ⟨True, by simp only [bn, h1]; rfl, trivial⟩
  case nenil =>
    obtain ⟨z, b, rfl, h1, rfl⟩ := nilsE_ok H
    exact ⟨True, by simp only [bn, h1]; rfl, trivial⟩
  case eqb => obtain ⟨a, b, rfl, rfl, rfl⟩ := boolsE_ok H; exact ⟨True, rfl, trivial⟩
  case neb => obtain ⟨a, b, rfl, rfl, rfl⟩ := boolsE_ok H; exact ⟨True, rfl, trivial⟩
  all_goals first
    | (obtain ⟨k, a, b, rfl, rfl, h⟩ := intsE_ok H; simp only [Option.some.injEq] at h; subst h; (try simp only [wrapE_eq, bitE_eq]); exact ⟨_, rfl, rfl⟩)
    | (obtain ⟨a, b, rfl, rfl, h⟩ := strsE_ok H; simp only [Option.some.injEq] at h; subst h; exact ⟨True, rfl, trivial⟩)

theorem partE_ok {ag : Bool} {sz : Nat} {cs : List AC} {off : Nat} {v : AV} (H : partE ag sz cs off = some v) : ∃ c, part ag sz cs off = some (c, v) ∧ c := by
  unfold partE at H
  unfold part
  split at H
  · rename_i ha
    rw [if_pos ha]
    obtain ⟨h1, rfl⟩ := must_some H
    exact ⟨_, rfl, of_decide_eq_true h1⟩
  · rename_i ha
    rw [if_neg ha]
    split at H
    · rename_i c hc
      cases H
      rw [hc]
      exact ⟨True, rfl, trivial⟩
    · cases H

theorem ldE_ok {ag : Bool} {sz : Nat} {h : Heap} {x v : AV} (H : ldE ag sz h x = some v) : ∃ c, ldV ag sz h x = some (c, v) ∧ c := by
  unfold ldE at H
  unfold ldV
  split at H
  · exact partE_ok H
  · split at H
    · rename_i es hes
      split at H
      · rename_i e he
        simp only [hes, he]
        exact partE_ok H
      · cases H
    · cases H
  · cases H

theorem lenE_ok {h : Heap} {x v : AV} (H : lenE h x = some v) : ∃ c, lenV h x = some (c, v) ∧ c := by
  unfold lenE at H
  unfold lenV
  split at H
  · cases H; exact ⟨True, rfl, trivial⟩
  · split at H
    · rename_i es hes
      cases H
      simp only [hes]
      exact ⟨True, rfl, trivial⟩
    · cases H
  · cases H; exact ⟨True, rfl, trivial⟩
  · cases H; exact ⟨True, rfl, trivial⟩
  · cases H

theorem mlenE_ok {h : Heap} {x v : AV} (H : mlenE h x = some v) : ∃ c, mlenV h x = some (c, v) ∧ c := by
  unfold mlenE at H
  unfold mlenV
  split at H
  · cases H; exact ⟨True, rfl, trivial⟩
  · split at H
    · rename_i es ck hes
      cases H
      simp only [hes]
      exact ⟨True, rfl, trivial⟩
    · cases H
  · cases H

theorem iadrE_ok {sz : Nat} {h : Heap} {x y v : AV} (H : iadrE sz h x y = some v) : ∃ c, iadrV sz h x y = some (c, v) ∧ c := by
  unfold iadrE at H
  unfold iadrV
  split at H
  · obtain ⟨h1, rfl⟩ := must_some H; exact ⟨_, rfl, of_decide_eq_true h1⟩
  · split at H
    · rename_i es hes
      obtain ⟨h1, rfl⟩ := must_some H
      simp only [hes]
      exact ⟨_, rfl, of_decide_eq_true h1⟩
    · cases H
  · split at H
    · rename_i es hes
      obtain ⟨h1, rfl⟩ := must_some H
      simp only [hes]
      exact ⟨_, rfl, of_decide_eq_true h1⟩
    · cases H
  · obtain ⟨h1, rfl⟩ := must_some H; exact ⟨_, rfl, of_decide_eq_true h1⟩
  · cases H

theorem lookE_ok {ok : Bool} {ks : Ksh} {zero : AV} {h : Heap} {x k v : AV} (H : lookE ok ks zero h x k = some v) : ∃ c, lookV ok ks zero h x k = some (c, v) ∧ c := by
  unfold lookE at H
  unfold lookV
  split at H
  · obtain ⟨h1, rfl⟩ := must_some H; exact ⟨_, rfl, of_decide_eq_true h1⟩
  · split at H
    · rename_i es ck hes
      obtain ⟨h1, rfl⟩ := must_some H
      simp only [hes]
      exact ⟨_, rfl, of_decide_eq_true h1⟩
    · cases H
  · cases H

set_option maxHeartbeats 2000000 in
theorem flE_ok {o : AOp} {env : Env} {h : Heap} {v : AV} (H : flE o env h = some v) : ∃ c, fl o env h = some (c, v) ∧ c := by
  cases o
  all_goals simp only [flE, flE_mv, flE_sconv, flE_pick, flE_bin, flE_not, flE_neg, flE_inv, flE_conv, flE_nilck, flE_fadr, flE_fld, flE_build, flE_iadr, flE_iarr, flE_idx, flE_sidx, flE_sslice, flE_slice, flE_aslice, flE_aslc, flE_len, flE_slen, flE_mlen, flE_alen, flE_extract, flE_load, flE_boxR, flE_slR, flE_slE, flE_sbytes, flE_bytess, flE_aeq, flE_mm, flE_lookup, flE_mkif, flE_tas, flE_mkfn, flE_mkbfn, evE_eq, boundE_eq, fillsE_eq, funEvE_eq] at H
  case build zero ps => obtain ⟨h1, rfl⟩ := must_some H; exact ⟨_, rfl, fillsOkE_ok _ _ _ (of_decide_eq_true h1)⟩
  case slR sz n zero ps => obtain ⟨h1, rfl⟩ := must_some H; exact ⟨_, rfl, fillsOkE_ok _ _ _ (of_decide_eq_true h1)⟩
  case bin f x y => exact bnE_ok H
  case iadr sz x i => exact iadrE_ok H
  case len x => exact lenE_ok H
  case mlen x => exact mlenE_ok H
  case load ag sz x => exact ldE_ok H
  case lookup ok ks zero x k => exact lookE_ok H
  case fld ag sz off x =>
    simp only [fl] at ⊢
    cases hx : x.ev env <;> rw [hx] at H <;> simp only at H ⊢ <;> first | exact partE_ok H | (cases H; done)
  case idx ag len sz x i =>
    simp only [fl] at ⊢
    cases hx : x.ev env <;> simp only [hx] at H ⊢ <;> (try (cases H; done))
    cases hi : i.ev env <;> simp only [hi] at H ⊢ <;> (try (cases H; done))
    rename_i cs y
    cases y <;> simp only at H ⊢ <;> (try (cases H; done))
    rename_i k n
    cases hp : partE ag sz cs (n.toNat * sz) with
    | none => rw [hp] at H; cases H
    | some u =>
      rw [hp] at H
      obtain ⟨h1, rfl⟩ := must_some H
      obtain ⟨c, h2, h3⟩ := partE_ok hp
      simp only [h2]
      exact ⟨_, rfl, of_decide_eq_true h1, h3⟩
  case bytess x =>
    simp only [fl] at ⊢
    cases hx : x.ev env <;> simp only [hx] at H ⊢ <;> (try (cases H; done))
    rename_i y
    cases y <;> simp only at H ⊢ <;> (try (cases H; done))
    · obtain ⟨h1, rfl⟩ := must_some H; exact ⟨_, rfl, of_decide_eq_true h1⟩
    · rename_i id
      cases hid : h id <;> simp only [hid] at H ⊢ <;> (try (cases H; done))
      rename_i ob
      cases ob <;> simp only at H ⊢ <;> (try (cases H; done))
      obtain ⟨h1, rfl⟩ := must_some H; exact ⟨_, rfl, of_decide_eq_true h1⟩
    · rename_i id i off sz n
      cases hv : viewE 1 h (.psl id i off sz n) <;> simp only [hv] at H ⊢ <;> (try (cases H; done))
      obtain ⟨p, h2, h3⟩ := viewE_ok hv
      obtain ⟨h1, rfl⟩ := must_some H
      simp only [h2]
      exact ⟨_, rfl, h3, of_decide_eq_true h1⟩
  case slice sz x lo hi mx =>
    simp only [fl] at ⊢
    cases hx : x.ev env <;> simp only [hx] at H ⊢ <;> (try (cases H; done))
    rename_i y
    cases y <;> simp only at H ⊢ <;> (try (cases H; done))
    · split at H
      · rename_i h1 h2 h3
        simp only [h1, h2, h3]
        obtain ⟨h4, rfl⟩ := must_some H; exact ⟨_, rfl, of_decide_eq_true h4⟩
      · cases H
    · rename_i id
      cases hid : h id <;> simp only [hid] at H ⊢ <;> (try (cases H; done))
      rename_i ob
      cases ob <;> simp only at H ⊢ <;> (try (cases H; done))
      split at H
      · rename_i h1 h2 h3
        simp only [h1, h2, h3]
        obtain ⟨h4, rfl⟩ := must_some H; exact ⟨_, rfl, of_decide_eq_true h4⟩
      · cases H
    · rename_i id lo0 n f
      cases hid : h id <;> simp only [hid] at H ⊢ <;> (try (cases H; done))
      rename_i ob
      cases ob <;> simp only at H ⊢ <;> (try (cases H; done))
      split at H
      · rename_i h1 h2 h3
        simp only [h1, h2, h3]
        obtain ⟨h4, rfl⟩ := must_some H; exact ⟨_, rfl, of_decide_eq_true h4⟩
      · cases H
    · split at H
      · rename_i h1 h2
        simp only [h1, h2]
        obtain ⟨h4, rfl⟩ := must_some H; exact ⟨_, rfl, of_decide_eq_true h4⟩
      · cases H
  case aslc sz n x lo hi =>
    simp only [fl] at ⊢
    split at H
    · rename_i l u h1 h2
      simp only [h1, h2]
      cases hx : x.ev env <;> simp only [hx] at H ⊢ <;> (try (cases H; done))
      rename_i y
      cases y <;> simp only at H ⊢ <;> (try (cases H; done))
      · obtain ⟨h4, rfl⟩ := must_some H; exact ⟨_, rfl, of_decide_eq_true h4⟩
      · obtain ⟨h4, rfl⟩ := must_some H; exact ⟨_, rfl, of_decide_eq_true h4⟩
    · cases H
  case sslice x lo hi =>
    simp only [fl] at ⊢
    cases hx : x.ev env <;> simp only [hx] at H ⊢ <;> (try (cases H; done))
    rename_i y
    cases y <;> simp only at H ⊢ <;> (try (cases H; done))
    split at H
    · rename_i h1 h2
      simp only [h1, h2]
      obtain ⟨h4, rfl⟩ := must_some H; exact ⟨_, rfl, of_decide_eq_true h4⟩
    · cases H
  case extract i x =>
    simp only [fl] at ⊢
    cases hx : x.ev env <;> simp only [hx] at H ⊢ <;> (try (cases H; done))
    rename_i xs
    cases hxi : xs[i]? <;> simp only [hxi] at H ⊢ <;> (try (cases H; done))
    cases H; exact ⟨True, rfl, trivial⟩
  all_goals (try simp only [wrapE_eq, bitE_eq] at H)
  all_goals simp only [fl]
  all_goals first
    | (cases H; exact ⟨True, rfl, trivial⟩)
    | (obtain ⟨h1, rfl⟩ := must_some H; exact ⟨_, rfl, of_decide_eq_true h1⟩)
    | (cases H; done)
    | skip
  all_goals (split at H)
  all_goals first
    | (rename_i hx; simp only [hx]; cases H; exact ⟨True, rfl, trivial⟩)
    | (rename_i hx; simp only [hx]; obtain ⟨h1, rfl⟩ := must_some H; exact ⟨_, rfl, of_decide_eq_true h1⟩)
    | (rename_i hx hy; simp only [hx, hy]; cases H; exact ⟨True, rfl, trivial⟩)
    | (rename_i hx hy; simp only [hx, hy]; obtain ⟨h1, rfl⟩ := must_some H; exact ⟨_, rfl, of_decide_eq_true h1⟩)
    | (cases H; done)

end Go.Ab
