/- Operations over abstract values: what each gives. Plain definitions. -/
import Derived.Test.YtdbaldohbjnlpaaGreatAb1
set_option linter.unusedVariables false
set_option linter.unusedSimpArgs false
namespace Go.Ab

abbrev Env := List (Nat × AV)
def get : Env → Nat → AV
  | [], _ => .any
  | (s, v) :: r, t => bif s == t then v else get r t

inductive Opd where
  | t (n : Nat)
  | k (v : AV)
def Opd.ev (e : Env) : Opd → AV
  | .t n => get e n
  | .k v => v

inductive BOp where
  | add | sub | mul | quo | rem | and | or | xor | andNot | shl | shr
  | eq | ne | lt | le | gt | ge
  | eqb | neb
  | sadd | seq | sne | slt | sle | sgt | sge
  | eqnil | nenil

/-- The kinds of a comparable value's cells. -/
inductive Kty where
  | i (k : IntKind)
  | s
  | b
  deriving DecidableEq

/-- A comparable type: is it an aggregate? Its cells' kinds. -/
abbrev Ksh := Bool × List Kty

/-- What one operation does. 'fl': it turns no object; 'ch': the others (calls apart). Numbers: cells of a type, places of fields. -/
inductive AOp where
  | mv (x : Opd)
  | asg (x : Opd)
  | sconv (x : Opd)
  | pick (c a b : Opd)
  | bin (f : BOp) (x y : Opd)
  | not (x : Opd)
  | neg (x : Opd)
  | inv (x : Opd)
  | conv (k : IntKind) (x : Opd)
  | nilck (x : Opd)
  | fadr (off : Nat) (x : Opd)
  | fld (ag : Bool) (sz off : Nat) (x : Opd)
  | build (zero : List AC) (ps : List (Nat × Nat × Opd))
  | iadr (sz : Nat) (x i : Opd)
  | iarr (sz len : Nat) (x i : Opd)
  | idx (ag : Bool) (len sz : Nat) (x i : Opd)
  | sidx (x i : Opd)
  | sslice (x : Opd) (lo hi : Option Opd)
  | slice (sz : Nat) (x : Opd) (lo hi mx : Option Opd)
  | aslice (sz n : Nat) (x : Opd)
  | aslc (sz n : Nat) (x : Opd) (lo hi : Option Opd)
  | len (x : Opd)
  | slen (x : Opd)
  | mlen (x : Opd)
  | alen (n : Nat) (x : Opd)
  | extract (i : Nat) (x : Opd)
  | load (ag : Bool) (sz : Nat) (x : Opd)
  | boxR (x : Opd)
  | slR (sz n : Nat) (zero : List AC) (ps : List (Nat × Nat × Opd))
  | slE (sz : Nat)
  | sbytes (x : Opd)
  | bytess (x : Opd)
  | box (x : Opd)
  | alloc (zero : List AC)
  | app (sz bytes : Nat) (s x : Opd)
  | store (sz : Nat) (x y : Opd)
  | call (f : Nat) (args : List Opd)
  | slM (sz n : Nat) (zero : List AC) (ps : List (Nat × Nat × Opd))
  | frz (sz : Nat) (x : Opd)
  | aeq (neg : Bool) (ks : Ksh) (x y : Opd)
  | mm (mx : Bool) (x y : Opd)
  | lookup (ok : Bool) (ks : Ksh) (zero : AV) (x k : Opd)
  | mkif (t : TypeId) (x : Opd)
  | tas (t : TypeId) (x : Opd)
  | mkfn (f : Nat) (caps : List Opd)
  | mkbfn (f : Nat) (caps : List Opd)
  | mkmap
  | mupd (ks : Ksh) (x k v : Opd)
  | mdel (ks : Ksh) (x k : Opd)
  | mentry (ks : Ksh) (zero : AV) (x k : Opd)
  | estore (x s v : Opd)
  | mclone (x : Opd)
  | appM (sz bytes : Nat) (s x : Opd)
  | mksl (m : Bool) (sz bytes : Nat) (zero : List AC) (l c : Opd)
  | cpy (sz : Nat) (x y : Opd)
  | callv (x : Opd) (args : List Opd)
  | bad

def int64 (n : Int) : AV := .c (.int .i64 n)

/-- The cells of one value are laid over others, from a place on. -/
def lay (cs : List AC) (off : Nat) (xs : List AC) : List AC := cs.take off ++ xs ++ cs.drop (off + xs.length)

/-- Parts are laid, each at its place: the place, how many cells it has, what it is. -/
def fills (env : Env) : List AC → List (Nat × Nat × Opd) → List AC
  | cs, [] => cs
  | cs, (i, _, x) :: r => fills env (lay cs i (x.ev env).cells) r
def fillsOk (env : Env) (len : Nat) : List (Nat × Nat × Opd) → Prop
  | [] => True
  | (i, sz, x) :: r => (x.ev env).cells.length = sz ∧ i + sz ≤ len ∧ fillsOk env len r

def groups (sz : Nat) : Nat → List AC → List (List AC)
  | 0, _ => []
  | n + 1, cs => cs.take sz :: groups sz n (cs.drop sz)

def bitOp (f : BOp) (k : IntKind) (a b : Int) : Int :=
  match f with
  | .and => k.wrap (BitVec.ofInt k.bits a &&& BitVec.ofInt k.bits b).toNat
  | .or => k.wrap (BitVec.ofInt k.bits a ||| BitVec.ofInt k.bits b).toNat
  | .xor => k.wrap (BitVec.ofInt k.bits a ^^^ BitVec.ofInt k.bits b).toNat
  | _ => k.wrap (BitVec.ofInt k.bits a &&& ~~~BitVec.ofInt k.bits b).toNat

/-- Is it nil? The second: the nil that it is held against. -/
def isNil : AC → AV → Option Bool
  | .nilp, .c .nilp | .nilmap, .c .nilmap | .nilfn, .c .nilfn | .sl _ [] .nil, .c (.sl _ [] .nil) => some true
  | .ptr _ _ _, .c .nilp | .rptr _, .c .nilp | .map _, .c .nilmap | .fn _ _, .c .nilfn | .bfn _ _, .c .nilfn | .msl _, .c (.sl _ [] .nil) | .sl _ _ (.tok _), .c (.sl _ [] .nil) => some false
  | .sl _ (_ :: _) .none, .c (.sl _ [] .nil) | .sl _ (_ :: _) .full, .c (.sl _ [] .nil) => some false
  | _, _ => none

def bn (f : BOp) (x y : AV) : Option (Prop × AV) :=
  match f, x, y with
  | .add, .c (.int k a), .c (.int k' b) => some (k = k', .c (.int k (k.wrap (a + b))))
  | .sub, .c (.int k a), .c (.int k' b) => some (k = k', .c (.int k (k.wrap (a - b))))
  | .mul, .c (.int k a), .c (.int k' b) => some (k = k', .c (.int k (k.wrap (a * b))))
  | .quo, .c (.int k a), .c (.int k' b) => some (k = k' ∧ b ≠ 0, .c (.int k (k.wrap (a.tdiv b))))
  | .rem, .c (.int k a), .c (.int k' b) => some (k = k' ∧ b ≠ 0, .c (.int k (a.tmod b)))
  | .and, .c (.int k a), .c (.int k' b) => some (k = k', .c (.int k (bitOp .and k a b)))
  | .or, .c (.int k a), .c (.int k' b) => some (k = k', .c (.int k (bitOp .or k a b)))
  | .xor, .c (.int k a), .c (.int k' b) => some (k = k', .c (.int k (bitOp .xor k a b)))
  | .andNot, .c (.int k a), .c (.int k' b) => some (k = k', .c (.int k (bitOp .andNot k a b)))
  | .shl, .c (.int k a), .c (.int _ b) => some (0 ≤ b, .c (.int k (k.wrap (a * 2 ^ (min b.toNat k.bits)))))
  | .shr, .c (.int k a), .c (.int _ b) => some (0 ≤ b, .c (.int k (a.fdiv (2 ^ (min b.toNat k.bits)))))
  | .eq, .c (.int k a), .c (.int k' b) => some (k = k', .c (.bool (a == b)))
  | .ne, .c (.int k a), .c (.int k' b) => some (k = k', .c (.bool (a != b)))
  | .lt, .c (.int k a), .c (.int k' b) => some (k = k', .c (.bool (decide (a < b))))
  | .le, .c (.int k a), .c (.int k' b) => some (k = k', .c (.bool (decide (a ≤ b))))
  | .gt, .c (.int k a), .c (.int k' b) => some (k = k', .c (.bool (decide (a > b))))
  | .ge, .c (.int k a), .c (.int k' b) => some (k = k', .c (.bool (decide (a ≥ b))))
  | .eqb, .c (.bool a), .c (.bool b) => some (True, .c (.bool (a == b)))
  | .neb, .c (.bool a), .c (.bool b) => some (True, .c (.bool !(a == b)))
  | .sadd, .c (.str a), .c (.str b) => some (((a.length + b.length : Nat) : Int) ≤ 9223372036854775807, .c (.str (a ++ b)))
  | .seq, .c (.str a), .c (.str b) => some (True, .c (.bool (a == b)))
  | .sne, .c (.str a), .c (.str b) => some (True, .c (.bool !(a == b)))
  | .slt, .c (.str a), .c (.str b) => some (True, .c (.bool (Op.bytesLess a b)))
  | .sle, .c (.str a), .c (.str b) => some (True, .c (.bool (Op.bytesLess a b || a == b)))
  | .sgt, .c (.str a), .c (.str b) => some (True, .c (.bool !(Op.bytesLess a b || a == b)))
  | .sge, .c (.str a), .c (.str b) => some (True, .c (.bool !(Op.bytesLess a b)))
  | .eqnil, .c x, y => match isNil x y with
    | some b => some (True, .c (.bool b))
    | none => none
  | .nenil, .c x, y => match isNil x y with
    | some b => some (True, .c (.bool !b))
    | none => none
  | _, _, _ => none

def part (ag : Bool) (sz : Nat) (cs : List AC) (off : Nat) : Option (Prop × AV) :=
  if ag then some (off + sz ≤ cs.length, .agg ((cs.drop off).take sz))
  else match cs[off]? with
    | some c => some (True, .c c)
    | none => none

/-- A bound as it stands, or what stands for none. -/
def bound (env : Env) (d : Nat) : Option Opd → Option Int
  | none => some d
  | some x => match x.ev env with
    | .c (.int _ n) => some n
    | _ => none

def byteOf : List AC → UInt8
  | [.int _ n] => UInt8.ofNat n.toNat
  | _ => 0
def isByte : List AC → Prop
  | [.int .u8 _] => True
  | _ => False
def bytesAC (l : List UInt8) : List (List AC) := l.map fun b => [.int .u8 b.toNat]

/-- What a slice holds: its elements. -/
def viewV (sz : Nat) (h : Heap) : AC → Option (Prop × List (List AC))
  | .sl sz' es _ => some (sz' = sz, es)
  | .str s => some (sz = 1, bytesAC s)
  | .msl id => match h id with
    | some (.row es) => some (es.all (fun e => e.length == sz) = true, es)
    | _ => none
  | .rsl id lo n _ => match h id with
    | some (.row es) => some (lo + n ≤ es.length ∧ es.all (fun e => e.length == sz) = true, (es.drop lo).take n)
    | _ => none
  | .psl id i off sz' n => match h id with
    | some (.row es) => match es[i]? with
      | some e => some (sz' = sz ∧ off + n * sz ≤ e.length, groups sz n (e.drop off))
      | none => none
    | _ => none
  | _ => none

/-! Comparable values, maps -/
def fitK : Kty → AC → Bool
  | .i k, .int k' _ => k == k'
  | .s, .str _ => true
  | .b, .bool _ => true
  | _, _ => false
def fitsK : List Kty → List AC → Bool
  | [], [] => true
  | k :: ks, c :: cs => fitK k c && fitsK ks cs
  | _, _ => false
def formOk (ag : Bool) : AV → Bool
  | .c _ => !ag
  | .agg _ => ag
  | _ => false
def fitsV (ks : Ksh) (v : AV) : Bool := formOk ks.1 v && fitsK ks.2 v.cells
def eqC : AC → AC → Bool
  | .int _ a, .int _ b => a == b
  | .str a, .str b => a == b
  | .bool a, .bool b => a == b
  | _, _ => false
def eqL : List AC → List AC → Bool
  | [], [] => true
  | a :: as, b :: bs => eqC a b && eqL as bs
  | _, _ => false
def findM (k : List AC) : List (AV × AV × Nat) → Option (AV × Nat)
  | [] => none
  | (a, v, b) :: r => bif eqL k a.cells then some (v, b) else findM k r
def keysFit (ks : Ksh) (es : List (AV × AV × Nat)) : Bool := es.all fun e => fitsV ks e.1
/-- The entry of a key is put in the place of the old one; 'f': what becomes of the value. -/
def putM (k : AV) (f : AV → AV) : List (AV × AV × Nat) → List (AV × AV × Nat)
  | [] => []
  | (a, v, b) :: r => bif eqL k.cells a.cells then (k, f v, b) :: r else (a, v, b) :: putM k f r
def delM (k : List AC) : List (AV × AV × Nat) → List (AV × AV × Nat)
  | [] => []
  | (a, v, b) :: r => bif eqL k a.cells then r else (a, v, b) :: delM k r
def bornM (v : AV) (b : Nat) : List (AV × AV × Nat) → Option (List (AV × AV × Nat))
  | [] => none
  | (a, u, b') :: r => bif b' == b then some ((a, v, b') :: r) else match bornM v b r with
    | some r' => some ((a, u, b') :: r')
    | none => none
def lookR (ok : Bool) (zero : AV) : Option (AV × Nat) → AV
  | some (v, _) => bif ok then .tup [v, .c (.bool true)] else v
  | none => bif ok then .tup [zero, .c (.bool false)] else zero
def isC : AV → Bool
  | .c _ => true
  | _ => false
def avOk1 : AV → Bool
  | .c _ | .agg _ => true
  | _ => false
def lookV (ok : Bool) (ks : Ksh) (zero : AV) (h : Heap) (x k : AV) : Option (Prop × AV) :=
  match x with
  | .c .nilmap => some (fitsV ks k = true, lookR ok zero none)
  | .c (.map id) => match h id with
    | some (.map es _) => some (fitsV ks k = true ∧ keysFit ks es = true, lookR ok zero (findM k.cells es))
    | _ => none
  | _ => none
def mupdM (k v : AV) (es : List (AV × AV × Nat)) (ck : Nat) : AObj :=
  match findM k.cells es with
  | some _ => .map (putM k (fun _ => v) es) ck
  | none => .map (es ++ [(k, v, ck)]) (ck + 1)

def reads : AOp → Bool
  | .load .. | .len .. | .mlen .. | .iadr .. | .lookup .. | .slice .. | .bytess .. => true
  | _ => false

def ldV (ag : Bool) (sz : Nat) (h : Heap) : AV → Option (Prop × AV)
  | .c (.rptr cs) => part ag sz cs 0
  | .c (.ptr id i off) => match h id with
    | some (.row es) => match es[i]? with
      | some e => part ag sz e off
      | none => none
    | _ => none
  | _ => none
def lenV (h : Heap) : AV → Option (Prop × AV)
  | .c (.sl _ es _) => some (True, int64 es.length)
  | .c (.msl id) => match h id with
    | some (.row es) => some (True, int64 es.length)
    | _ => none
  | .c (.rsl _ _ n _) => some (True, int64 n)
  | .c (.psl _ _ _ _ n) => some (True, int64 n)
  | _ => none
def mlenV (h : Heap) : AV → Option (Prop × AV)
  | .c .nilmap => some (True, int64 0)
  | .c (.map id) => match h id with
    | some (.map es _) => some (True, int64 es.length)
    | _ => none
  | _ => none
def iadrV (sz : Nat) (h : Heap) : AV → AV → Option (Prop × AV)
  | .c (.sl sz' es _), .c (.int _ n) => some (sz' = sz ∧ 0 ≤ n ∧ n < es.length, .c (.rptr (es.getD n.toNat [])))
  | .c (.msl id), .c (.int _ n) => match h id with
    | some (.row es) => some (es.all (fun e => e.length == sz) = true ∧ 0 ≤ n ∧ n < es.length, .c (.ptr id n.toNat 0))
    | _ => none
  | .c (.rsl id lo m _), .c (.int _ n) => match h id with
    | some (.row es) => some (es.all (fun e => e.length == sz) = true ∧ lo + m ≤ es.length ∧ 0 ≤ n ∧ n < m, .c (.ptr id (lo + n.toNat) 0))
    | _ => none
  | .c (.psl id i off sz' m), .c (.int _ n) => some (sz' = sz ∧ 0 ≤ n ∧ n < m, .c (.ptr id i (off + n.toNat * sz)))
  | _, _ => none

def fl (o : AOp) (env : Env) (h : Heap) : Option (Prop × AV) :=
  match o with
  | .mv x => some (True, x.ev env)
  | .sconv x => match x.ev env with
    | .c (.str s) => some (True, .c (.str s))
    | _ => none
  | .pick c a b => match c.ev env with
    | .c (.bool t) => some (True, bif t then a.ev env else b.ev env)
    | _ => none
  | .bin f x y => bn f (x.ev env) (y.ev env)
  | .not x => match x.ev env with
    | .c (.bool b) => some (True, .c (.bool !b))
    | _ => none
  | .neg x => match x.ev env with
    | .c (.int k n) => some (True, .c (.int k (k.wrap (0 - n))))
    | _ => none
  | .inv x => match x.ev env with
    | .c (.int k n) => some (True, .c (.int k (bitOp .xor k (if k.signed then -1 else k.max) n)))
    | _ => none
  | .conv k x => match x.ev env with
    | .c (.int _ n) => some (True, .c (.int k (k.wrap n)))
    | _ => none
  | .nilck x => match x.ev env with
    | .c (.ptr i j o) => some (True, .c (.ptr i j o))
    | .c (.rptr cs) => some (True, .c (.rptr cs))
    | _ => none
  | .fadr off x => match x.ev env with
    | .c (.ptr i j o) => some (True, .c (.ptr i j (o + off)))
    | .c (.rptr cs) => some (True, .c (.rptr (cs.drop off)))
    | _ => none
  | .fld ag sz off x => match x.ev env with
    | .agg cs => part ag sz cs off
    | _ => none
  | .build zero ps => some (fillsOk env zero.length ps, .agg (fills env zero ps))
  | .iadr sz x i => iadrV sz h (x.ev env) (i.ev env)
  | .iarr sz len x i => match x.ev env, i.ev env with
    | .c (.rptr cs), .c (.int _ n) => some (0 ≤ n ∧ n < len, .c (.rptr (cs.drop (n.toNat * sz))))
    | .c (.ptr id j o), .c (.int _ n) => some (0 ≤ n ∧ n < len, .c (.ptr id j (o + n.toNat * sz)))
    | _, _ => none
  | .idx ag len sz x i => match x.ev env, i.ev env with
    | .agg cs, .c (.int _ n) => match part ag sz cs (n.toNat * sz) with
      | some (p, v) => some ((0 ≤ n ∧ n < len) ∧ p, v)
      | none => none
    | _, _ => none
  | .sidx x i => match x.ev env, i.ev env with
    | .c (.str s), .c (.int _ n) => some (0 ≤ n ∧ n < s.length, .c (.int .u8 (s.getD n.toNat 0).toNat))
    | _, _ => none
  | .sslice x lo hi => match x.ev env with
    | .c (.str s) => match bound env 0 lo, bound env s.length hi with
      | some l, some u => some (0 ≤ l ∧ l ≤ u ∧ u ≤ s.length, .c (.str ((s.take u.toNat).drop l.toNat)))
      | _, _ => none
    | _ => none
  | .slice sz x lo hi mx => match x.ev env with
    | .c (.sl sz' es c) => match bound env 0 lo, bound env es.length hi, bound env es.length mx with
      | some l, some u, some m => some (sz' = sz ∧ 0 ≤ l ∧ l ≤ u ∧ u ≤ es.length ∧ (mx.isSome = true → u = m), .c (.sl sz ((es.take u.toNat).drop l.toNat) (bif mx.isSome then .full else .none)))
      | _, _, _ => none
    | .c (.msl id) => match h id with
      | some (.row es) => match bound env 0 lo, bound env es.length hi, bound env es.length mx with
        | some l, some u, some m => some (es.all (fun e => e.length == sz) = true ∧ 0 ≤ l ∧ l ≤ u ∧ u ≤ es.length ∧ (mx.isSome = true → u = m), .c (.rsl id l.toNat (u - l).toNat mx.isSome))
        | _, _, _ => none
      | _ => none
    | .c (.rsl id lo0 n f) => match h id with
      | some (.row es) => match bound env 0 lo, bound env n hi, bound env n mx with
        | some l, some u, some m => some (es.all (fun e => e.length == sz) = true ∧ lo0 + n ≤ es.length ∧ 0 ≤ l ∧ l ≤ u ∧ u ≤ n ∧ (mx.isSome = true → u = m), .c (.rsl id (lo0 + l.toNat) (u - l).toNat (mx.isSome || (f && hi.isNone))))
        | _, _, _ => none
      | _ => none
    | .c (.psl id i off sz' n) => match bound env 0 lo, bound env n hi with
      | some l, some u => some (sz' = sz ∧ mx.isNone = true ∧ 0 ≤ l ∧ l ≤ u ∧ u ≤ n, .c (.psl id i (off + l.toNat * sz) sz (u - l).toNat))
      | _, _ => none
    | _ => none
  | .aslice sz n x => match x.ev env with
    | .c (.rptr cs) => some (n * sz ≤ cs.length, .c (.sl sz (groups sz n cs) .full))
    | .c (.ptr id i off) => some (True, .c (.psl id i off sz n))
    | _ => none
  | .aslc sz n x lo hi => match bound env 0 lo, bound env n hi with
    | some l, some u => match x.ev env with
      | .c (.rptr cs) => some (n * sz ≤ cs.length ∧ 0 ≤ l ∧ l ≤ u ∧ u ≤ n, .c (.sl sz (((groups sz n cs).take u.toNat).drop l.toNat) .none))
      | .c (.ptr id i off) => some (0 ≤ l ∧ l ≤ u ∧ u ≤ n, .c (.psl id i (off + l.toNat * sz) sz (u - l).toNat))
      | _ => none
    | _, _ => none
  | .len x => lenV h (x.ev env)
  | .slen x => match x.ev env with
    | .c (.str s) => some (True, int64 s.length)
    | _ => none
  | .mlen x => mlenV h (x.ev env)
  | .alen n _ => some (True, int64 n)
  | .extract i x => match x.ev env with
    | .tup xs => match xs[i]? with
      | some v => some (True, v)
      | none => none
    | _ => none
  | .load ag sz x => ldV ag sz h (x.ev env)
  | .boxR x => match x.ev env with
    | .c v => some (True, .c (.rptr [v]))
    | .agg cs => some (True, .c (.rptr cs))
    | _ => none
  | .slR sz n zero ps => some (fillsOk env zero.length ps, .c (.sl sz (groups sz n (fills env zero ps)) .full))
  | .slE sz => some (True, .c (.sl sz [] .full))
  | .sbytes x => match x.ev env with
    | .c (.str s) => some (True, .c (.sl 1 (bytesAC s) .none))
    | _ => none
  | .bytess x => match x.ev env with
    | .c (.sl _ es _) => some (∀ e ∈ es, isByte e, .c (.str (es.map byteOf)))
    | .c (.msl id) => match h id with
      | some (.row es) => some (∀ e ∈ es, isByte e, .c (.str (es.map byteOf)))
      | _ => none
    | .c (.psl id i off sz n) => match viewV 1 h (.psl id i off sz n) with
      | some (p, es) => some (p ∧ ∀ e ∈ es, isByte e, .c (.str (es.map byteOf)))
      | none => none
    | _ => none
  | .aeq neg ks x y => some (fitsV ks (x.ev env) = true ∧ fitsV ks (y.ev env) = true, .c (.bool (neg ^^ eqL (x.ev env).cells (y.ev env).cells)))
  | .mm mx x y => match x.ev env, y.ev env with
    | .c (.int k a), .c (.int k' b) => some (k = k', .c (.int k (bif mx then (if b > a then b else a) else (if b < a then b else a))))
    | _, _ => none
  | .lookup ok ks zero x k => lookV ok ks zero h (x.ev env) (k.ev env)
  | .mkif t x => match x.ev env with
    | .c (.map id) => some (True, .c (.ifm t id))
    | _ => none
  | .tas t x => match x.ev env with
    | .c (.ifm t' id) => some (t' = t, .c (.map id))
    | _ => none
  | .mkfn f caps => some ((caps.map (·.ev env)).all avOk1 = true ∧ (caps.map (·.ev env)).all isC = true, .c (.fn f ((caps.map (·.ev env)).flatMap AV.cells)))
  | .mkbfn f caps => some ((caps.map (·.ev env)).all avOk1 = true ∧ (caps.map (·.ev env)).all isC = true, .c (.bfn f ((caps.map (·.ev env)).flatMap AV.cells)))
  | _ => none

def Heap.upd (h : Heap) (i : Nat) (o : AObj) : Heap := fun j => if j = i then some o else h j
def Heap.del (h : Heap) (i : Nat) : Heap := fun j => if j = i then none else h j
/-- The heap without what an appended slice's token stands for. -/
def delCp (h : Heap) : Cp → Heap
  | .tok i => h.del i
  | _ => h
def cpOk (h : Heap) : Cp → Prop
  | .none => False
  | .tok i => h i = some .spare
  | _ => True

def ch (o : AOp) (env : Env) (h : Heap) (n : Nat) : Option (Prop × AV × Heap × Nat) :=
  match o with
  | .asg x => some (True, x.ev env, h, n)
  | .box x => match x.ev env with
    | .c v => some (True, .c (.ptr n 0 0), h.upd n (.row [[v]]), n + 1)
    | .agg cs => some (True, .c (.ptr n 0 0), h.upd n (.row [cs]), n + 1)
    | _ => none
  | .alloc zero => some (True, .c (.ptr n 0 0), h.upd n (.row [zero]), n + 1)
  | .app sz bytes s x => match x.ev env with
    | .c xx => match viewV sz h xx with
      | some (p, ys) => match s.ev env with
        | .c (.sl sz' es c) =>
          some (sz' = sz ∧ p ∧ (ys.isEmpty = true ∨ (cpOk h c ∧ (es.length + ys.length) * bytes ≤ 2 ^ 47)),
            .c (.sl sz (es ++ ys) (bif ys.isEmpty then c else .tok n)), bif ys.isEmpty then h else (delCp h c).upd n .spare, bif ys.isEmpty then n else n + 1)
        | .c (.msl id) => match h id with
          | some (.row es) => some (p ∧ es ≠ [] ∧ (∀ e ∈ es, e.length = sz) ∧ (es.length + ys.length) * bytes ≤ 2 ^ 47, .c (.msl n), (h.del id).upd n (.row (es ++ ys)), n + 1)
          | _ => none
        | _ => none
      | none => none
    | _ => none
  | .appM sz bytes s x => match x.ev env with
    | .c xx => match viewV sz h xx with
      | some (p, ys) => match s.ev env with
        | .c (.msl id) => match h id with
          | some (.row es) => some (p ∧ es ≠ [] ∧ (∀ e ∈ es, e.length = sz) ∧ (es.length + ys.length) * bytes ≤ 2 ^ 47, .c (.msl n), (h.del id).upd n (.row (es ++ ys)), n + 1)
          | _ => none
        | .c (.sl sz' es .nil) => some (sz' = sz ∧ p ∧ (ys.isEmpty = true ∨ (es.length + ys.length) * bytes ≤ 2 ^ 47),
            bif ys.isEmpty then .c (.sl sz' es .nil) else .c (.msl n), bif ys.isEmpty then h else h.upd n (.row (es ++ ys)), bif ys.isEmpty then n else n + 1)
        | .c (.sl sz' es .full) => some (sz' = sz ∧ p ∧ (ys.isEmpty = true ∨ (es.length + ys.length) * bytes ≤ 2 ^ 47),
            bif ys.isEmpty then .c (.sl sz' es .full) else .c (.msl n), bif ys.isEmpty then h else h.upd n (.row (es ++ ys)), bif ys.isEmpty then n else n + 1)
        | .c (.rsl id lo m true) => match viewV sz h (.rsl id lo m true) with
          | some (q, es) => some (q ∧ p ∧ (ys.isEmpty = true ∨ (es.length + ys.length) * bytes ≤ 2 ^ 47),
            bif ys.isEmpty then .c (.rsl id lo m true) else .c (.msl n), bif ys.isEmpty then h else h.upd n (.row (es ++ ys)), bif ys.isEmpty then n else n + 1)
          | none => none
        | _ => none
      | none => none
    | _ => none
  | .mksl m sz bytes zero l c => match l.ev env, c.ev env with
    | .c (.int _ a), .c (.int _ b) => some (0 ≤ a ∧ a ≤ b ∧ b.toNat * bytes ≤ 2 ^ 47,
        bif m then .c (.msl n) else .c (.sl sz (List.replicate a.toNat zero) (.tok n)), h.upd n (bif m then .row (List.replicate a.toNat zero) else .spare), n + 1)
    | _, _ => none
  | .cpy sz x y => match y.ev env with
    | .c yy => match viewV sz h yy with
      | some (p, ys) => match x.ev env with
        | .c (.psl id i off sz' m) => match h id with
          | some (.row es) => match es[i]? with
            | some e => some (p ∧ sz' = sz ∧ off + m * sz ≤ e.length, int64 ((min ys.length m : Nat) : Int), h.upd id (.row (es.set i (lay e off (ys.take m).flatten))), n)
            | none => none
          | _ => none
        | _ => none
      | none => none
    | _ => none
  | .mkmap => some (True, .c (.map n), h.upd n (.map [] 0), n + 1)
  | .mupd ks x k v => match x.ev env with
    | .c (.map id) => match h id with
      | some (.map es ck) => some (fitsV ks (k.ev env) = true ∧ avOk1 (v.ev env) = true ∧ keysFit ks es = true, .tup [], h.upd id (mupdM (k.ev env) (v.ev env) es ck), n)
      | _ => none
    | _ => none
  | .mdel ks x k => match x.ev env with
    | .c .nilmap => some (fitsV ks (k.ev env) = true, .tup [], h, n)
    | .c (.map id) => match h id with
      | some (.map es ck) => some (fitsV ks (k.ev env) = true ∧ keysFit ks es = true, .tup [], h.upd id (.map (delM (k.ev env).cells es) ck), n)
      | _ => none
    | _ => none
  | .mentry ks zero x k => match x.ev env with
    | .c (.map id) => match h id with
      | some (.map es ck) => match findM (k.ev env).cells es with
        | some (v, b) => some (fitsV ks (k.ev env) = true ∧ keysFit ks es = true, .tup [v, int64 b], h.upd id (.map (putM (k.ev env) (fun v => v) es) ck), n)
        | none => some (fitsV ks (k.ev env) = true ∧ keysFit ks es = true, .tup [zero, int64 ck], h.upd id (.map (es ++ [(k.ev env, zero, ck)]) (ck + 1)), n)
      | _ => none
    | _ => none
  | .estore x s v => match x.ev env, s.ev env with
    | .c (.map id), .c (.int _ b) => match h id with
      | some (.map es ck) => match bornM (v.ev env) b.toNat es with
        | some es' => some (0 ≤ b ∧ avOk1 (v.ev env) = true, .tup [], h.upd id (.map es' ck), n)
        | none => none
      | _ => none
    | _, _ => none
  | .mclone x => match x.ev env with
    | .c (.ifm t id) => match h id with
      | some (.map es ck) => some (True, .c (.ifm t n), h.upd n (.map es ck), n + 1)
      | _ => none
    | _ => none
  | .slM sz k zero ps => some (fillsOk env zero.length ps, .c (.msl n), h.upd n (.row (groups sz k (fills env zero ps))), n + 1)
  | .frz sz x => match x.ev env with
    | .c (.msl id) => match h id with
      | some (.row es) => some (es ≠ [] ∧ (∀ e ∈ es, e.length = sz), .c (.sl sz es (.tok id)), h.upd id .spare, n)
      | _ => none
    | _ => none
  | .store sz x y => match x.ev env with
    | .c (.ptr id i off) => match h id with
      | some (.row es) => match es[i]? with
        | some e => match y.ev env with
          | .c v => some (sz = 1 ∧ off < e.length, .tup [], h.upd id (.row (es.set i (e.set off v))), n)
          | .agg vs => some (vs.length = sz ∧ off + sz ≤ e.length, .tup [], h.upd id (.row (es.set i (lay e off vs))), n)
          | _ => none
        | none => none
      | _ => none
    | _ => none
  | _ => none

def isCall : AOp → Bool
  | .call .. => true
  | _ => false
def isChain : AOp → Bool
  | .asg .. | .box .. | .alloc .. | .app .. | .store .. | .call .. | .slM .. | .frz .. | .bad
  | .mkmap | .mupd .. | .mdel .. | .mentry .. | .estore .. | .mclone .. | .appM .. | .mksl .. | .cpy .. | .callv .. => true
  | _ => false

end Go.Ab
