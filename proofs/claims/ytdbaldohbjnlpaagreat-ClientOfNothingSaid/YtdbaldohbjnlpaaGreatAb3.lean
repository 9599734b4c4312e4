/- Which operation of the program an abstract one stands for. -/
import Derived.Test.YtdbaldohbjnlpaaGreatAb2
set_option linter.unusedVariables false
set_option linter.unusedSimpArgs false
namespace Go.Ab

def acOk : Value → AC → Bool
  | .int k n, .int k' n' => k == k' && n == n'
  | .bool b, .bool b' => b == b'
  | .string s, .str l => s.data.toList == l
  | .pointer none, .nilp => true
  | .slice none 0 0, .sl _ [] .nil => true
  | .map none, .nilmap => true
  | .nilFunc, .nilfn => true
  | _, _ => false

def acsOk : List Value → List AC → Bool
  | [], [] => true
  | v :: vs, c :: cs => acOk v c && acsOk vs cs
  | _, _ => false

def avOk : Value → AV → Bool
  | .agg vs, .agg cs => acsOk vs.toList cs
  | v, .c x => acOk v x
  | _, _ => false

def opdOk : Operand → Opd → Bool
  | .tmp t, .t n => t == n
  | .const v, .k x => avOk v x
  | .func f, .k (.c (.fn g [])) => f == g
  | _, _ => false

def opdsOk : List Operand → List Opd → Bool
  | [], [] => true
  | x :: xs, y :: ys => opdOk x y && opdsOk xs ys
  | _, _ => false

def optOk : Option Operand → Option Opd → Bool
  | none, none => true
  | some x, some y => opdOk x y
  | _, _ => false

/-- A variable of the type has so many cells; is it an aggregate? -/
def tyOk (P : Program) (ag : Bool) (sz : Nat) (t : TypeId) : Bool :=
  (match P.underlying t with
    | some (.struct _) | some (.array _ _) => ag
    | some _ => !ag && sz == 1
    | none => false) && (match P.info? t with | some i => i.size == sz | none => false)
def szOk (P : Program) (sz : Nat) (t : TypeId) : Bool := match P.info? t with | some i => i.size == sz | none => false
def byOk (P : Program) (by_ : Nat) (t : TypeId) : Bool := match P.info? t with | some i => i.bytes == by_ | none => false
def zeroOk (P : Program) (zero : List AC) (t : TypeId) : Bool :=
  match P.info? t with
  | some i => match i.zero with
    | some z => acsOk z.cells.toList zero
    | none => false
  | none => false
def nilTy (P : Program) (t : TypeId) : AV → Bool
  | .c .nilp => (match P.underlying t with | some (.pointer _) => true | _ => false)
  | .c (.sl _ [] .nil) => (match P.underlying t with | some (.slice _) => true | _ => false)
  | .c .nilmap => (match P.underlying t with | some (.map _ _) => true | _ => false)
  | .c .nilfn => (match P.underlying t with | some (.func _ _ _) => true | _ => false)
  | _ => false
def nilOpd (P : Program) (t : TypeId) : Opd → Bool
  | .k v => nilTy P t v
  | _ => false

def binOk (P : Program) (f : BOp) (op : BinOp) (t : TypeId) (y : Opd) : Bool :=
  match f, op with
  | .add, .add | .sub, .sub | .mul, .mul | .quo, .quo | .rem, .rem | .and, .and | .or, .or | .xor, .xor | .andNot, .andNot | .shl, .shl | .shr, .shr => true
  | .eq, .eql | .ne, .neq | .lt, .lss | .le, .leq | .gt, .gtr | .ge, .geq => true
  | .sadd, .add | .seq, .eql | .sne, .neq | .slt, .lss | .sle, .leq | .sgt, .gtr | .sge, .geq => true
  | .eqb, .eql | .neb, .neq => (match P.underlying t with | some .bool => true | _ => false)
  | .eqnil, .eql | .nenil, .neq => nilOpd P t y
  | _, _ => false

def partsOk (P : Program) (fs : Array Field) : List (Nat × Operand) → List (Nat × Nat × Opd) → Bool
  | [], [] => true
  | (i, x) :: r, (off, sz, y) :: r' => opdOk x y && (match fs[i]? with | some f => f.offset == off && szOk P sz f.type && decide (0 < sz) | none => false) && partsOk P fs r r'
  | _, _ => false
def rowPartsOk (sz : Nat) : List (Nat × Operand) → List (Nat × Nat × Opd) → Bool
  | [], [] => true
  | (i, x) :: r, (off, s, y) :: r' => opdOk x y && off == i * sz && s == sz && decide (0 < sz) && rowPartsOk sz r r'
  | _, _ => false
/-- So many times the cells of one element. -/
def times : Nat → List AC → List AC
  | 0, _ => []
  | n + 1, z => z ++ times n z

def fnOk (P : Program) (f : Nat) : Bool :=
  match P.funcs[f]? with
  | some fn => fn.body.isSome && !(fn.name == "runtime.NumGoroutine")
  | none => false

def sliceElem (P : Program) (t : TypeId) : Option TypeId := match P.underlying t with | some (.slice e) => some e | _ => none
def arrElem (P : Program) (t : TypeId) : Option (Nat × TypeId) := match P.underlying t with | some (.array n e) => some (n, e) | _ => none
def fieldOf (P : Program) (t : TypeId) (f : Nat) : Option Field := match P.underlying t with | some (.struct fs) => fs[f]? | _ => none
def isStr (P : Program) (t : TypeId) : Bool := match P.underlying t with | some .string => true | _ => false
def isInt (P : Program) (k : IntKind) (t : TypeId) : Bool := match P.underlying t with | some (.int k') => k' == k | _ => false
def noInt (P : Program) (t : TypeId) : Bool := match P.underlying t with | some (.int _) => false | some _ => true | none => false
def isMap (P : Program) (t : TypeId) : Bool := match P.underlying t with | some (.map _ _) => true | _ => false
/-- An element's cells, when it is zero: so many, each of one cell. -/
def elemZero (P : Program) (e : TypeId) (sz : Nat) : Option (List Value) :=
  match P.info? e with
  | some i => match i.zero with
    | some z => if z.cells.size = sz ∧ z.cells.toList.all (·.oneCell') then some z.cells.toList else none
    | none => none
  | none => none
def callOk (c : Call) (b : Builtin) : Option (List Operand × List TypeId) :=
  match c.callee with
  | .builtin b' => if b' = b then some (c.args.toList, c.argTypes.toList) else none
  | _ => none

/-- The kinds of a comparable type's cells. -/
def structK (g : TypeId → Option (List Kty)) : List Field → Nat → Option (List Kty)
  | [], _ => some []
  | f :: r, off => if f.name != "_" && f.offset == off then match g f.type with
      | some l => match structK g r (off + l.length) with
        | some m => some (l ++ m)
        | none => none
      | none => none
    else none
def kTy (P : Program) : Nat → TypeId → Option (List Kty)
  | 0, _ => none
  | d + 1, t => match P.underlying t with
    | some (.int k) => if szOk P 1 t then some [.i k] else none
    | some .string => if szOk P 1 t then some [.s] else none
    | some .bool => if szOk P 1 t then some [.b] else none
    | some (.struct fs) => if P.stoodInHeld t then none else match structK (kTy P d) fs.toList 0 with
      | some l => if szOk P l.length t then some l else none
      | none => none
    | some (.array n e) => match kTy P d e with
      | some l => if szOk P l.length e then (if szOk P (n * l.length) t then some (List.replicate n l).flatten else none) else none
      | none => none
    | _ => none
def kshOk (P : Program) (ks : Ksh) (t : TypeId) : Bool :=
  kTy P 20 t == some ks.2 && !P.eqGuardType P.depth t && (match P.underlying t with | some (.struct _) | some (.array _ _) => ks.1 | _ => !ks.1)
def mapTy (P : Program) (t : TypeId) : Option (TypeId × TypeId) := match P.underlying t with | some (.map k e) => some (k, e) | _ => none
def zeroV (P : Program) (zero : AV) (t : TypeId) : Bool := match P.info? t with
  | some i => match i.zero with
    | some z => avOk z zero
    | none => false
  | none => false
def cloneFn (P : Program) (f : Nat) : Bool := match P.funcs[f]? with
  | some fn => fn.body.isNone && fn.name == "maps.clone" && fn.origin == ""
  | none => false
def isIface (P : Program) (t : TypeId) : Bool := match P.underlying t with | some (.interface _) => true | _ => false

def opOk (P : Program) (o : AOp) (op : Op) : Bool :=
  match o with
  | .mv x => match op with
    | .move y | .assign y => opdOk y x
    | _ => false
  | .sconv x => match op with | .convert src dst y => opdOk y x && isStr P src && isStr P dst | _ => false
  | .asg x => match op with
    | .move y | .assign y => opdOk y x
    | _ => false
  | .pick c a b => match op with | .pick c' a' b' => opdOk c' c && opdOk a' a && opdOk b' b | _ => false
  | .bin f x y => match op with | .binOp op t x' y' _ => opdOk x' x && opdOk y' y && binOk P f op t y | _ => false
  | .not x => match op with | .unOp .not _ y => opdOk y x | _ => false
  | .neg x => match op with | .unOp .neg _ y => opdOk y x | _ => false
  | .inv x => match op with | .unOp .xor _ y => opdOk y x | _ => false
  | .conv k x => match op with | .convert src dst y => opdOk y x && (P.underlying src).isSome && isInt P k dst | _ => false
  | .nilck x => match op with | .nilCheck y => opdOk y x | _ => false
  | .fadr off x => match op with
    | .fieldAddr t y f => opdOk y x && (match fieldOf P t f with | some g => g.offset == off && !(szOk P 0 g.type) && (P.info? g.type).isSome | none => false)
    | _ => false
  | .fld ag sz off x => match op with
    | .field t y f => opdOk y x && (match fieldOf P t f with | some g => g.offset == off && tyOk P ag sz g.type | none => false)
    | _ => false
  | .build zero ps => match op with
    | .build t parts => zeroOk P zero t && (match P.underlying t with
      | some (.struct fs) => fs.toList.all (fun f => (P.info? f.type).isSome) && partsOk P fs parts.toList ps
      | some (.array _ e) => (match P.info? e with | some i => rowPartsOk i.size parts.toList ps | none => false)
      | _ => false)
    | _ => false
  | .iadr sz x i => match op with
    | .indexAddr t y j => opdOk y x && opdOk j i && (match sliceElem P t with | some e => szOk P sz e | none => false)
    | _ => false
  | .iarr sz len x i => match op with
    | .indexAddr t y j => opdOk y x && opdOk j i && (match arrElem P t with | some (n, e) => n == len && szOk P sz e | none => false)
    | _ => false
  | .idx ag len sz x i => match op with
    | .index t y j => opdOk y x && opdOk j i && (match arrElem P t with | some (n, e) => n == len && tyOk P ag sz e | none => false)
    | _ => false
  | .sidx x i => match op with | .index t y j => opdOk y x && opdOk j i && isStr P t | _ => false
  | .sslice x lo hi => match op with | .slice t y l u m => opdOk y x && optOk l lo && optOk u hi && m.isNone && isStr P t | _ => false
  | .slice sz x lo hi mx => match op with
    | .slice t y l u m => opdOk y x && optOk l lo && optOk u hi && optOk m mx && (m.isNone || u.isSome) && (match sliceElem P t with | some e => szOk P sz e | none => false)
    | _ => false
  | .aslice sz n x => match op with
    | .slice t y l u m => opdOk y x && l.isNone && u.isNone && m.isNone && (match arrElem P t with | some (n', e) => n' == n && szOk P sz e | none => false)
    | _ => false
  | .aslc sz n x lo hi => match op with
    | .slice t y l u m => opdOk y x && optOk l lo && optOk u hi && m.isNone && (match arrElem P t with | some (n', e) => n' == n && szOk P sz e | none => false)
    | _ => false
  | .len x => match op with
    | .call c => (match callOk c .len with | some ([y], [t]) => opdOk y x && (sliceElem P t).isSome | _ => false)
    | _ => false
  | .slen x => match op with
    | .call c => (match callOk c .len with | some ([y], [t]) => opdOk y x && isStr P t | _ => false)
    | _ => false
  | .mlen x => match op with
    | .call c => (match callOk c .len with | some ([y], [t]) => opdOk y x && isMap P t | _ => false)
    | _ => false
  | .alen n x => match op with
    | .call c => (match callOk c .len with | some ([y], [t]) => opdOk y x && (match arrElem P t with | some (n', _) => n' == n | none => false) | _ => false)
    | _ => false
  | .extract i x => match op with | .extract y j => opdOk y x && i == j | _ => false
  | .load ag sz x => match op with | .load t y => opdOk y x && tyOk P ag sz t | _ => false
  | .boxR x => match op with | .box _ y => opdOk y x | _ => false
  | .box x => match op with | .box _ y => opdOk y x | _ => false
  | .alloc zero => match op with | .alloc t => zeroOk P zero t | _ => false
  | .slR sz n zero ps => match op with
    | .buildSlice t m parts => m == n && decide (n * sz ≤ 16777216) && decide (0 < n * sz) && (match sliceElem P t with
      | some e => rowPartsOk sz parts.toList ps && szOk P sz e && (match elemZero P e sz with | some z => acsOk ((List.replicate n z).flatten) zero | none => false)
      | none => false)
    | _ => false
  | .slM sz n zero ps => match op with
    | .buildSlice t m parts => m == n && decide (n * sz ≤ 16777216) && decide (0 < n * sz) && (match sliceElem P t with
      | some e => rowPartsOk sz parts.toList ps && szOk P sz e && (match elemZero P e sz with | some z => acsOk ((List.replicate n z).flatten) zero | none => false)
      | none => false)
    | _ => false
  | .frz sz x => match op with
    | .move y | .assign y => opdOk y x
    | _ => false
  | .slE sz => match op with
    | .buildSlice t m parts => m == 0 && parts.isEmpty && (match sliceElem P t with | some e => (P.info? e).isSome | none => false)
    | _ => false
  | .bad => true
  | .aeq neg ks x y => match op with
    | .binOp op t x' y' _ => opdOk x' x && opdOk y' y && kshOk P ks t && (match op with | .eql => !neg | .neq => neg | _ => false)
    | _ => false
  | .mm mx x y => match op with
    | .call c => (match callOk c (if mx then .max else .min) with | some ([x', y'], _) => opdOk x' x && opdOk y' y | _ => false)
    | _ => false
  | .lookup ok ks zero x k => match op with
    | .lookup t x' k' ok' => opdOk x' x && opdOk k' k && ok == ok' && (match mapTy P t with | some (kt, et) => kshOk P ks kt && zeroV P zero et | none => false)
    | _ => false
  | .mkif t x => match op with
    | .makeInterface t' y => opdOk y x && t == t' && isMap P t
    | _ => false
  | .tas t x => match op with
    | .typeAssert y _ t' ok => opdOk y x && t == t' && !ok && isMap P t
    | _ => false
  | .mkfn f caps => match op with
    | .makeFunc (.func g) first xs => f == g && first.isEmpty && opdsOk xs.toList caps
    | _ => false
  | .mkbfn f caps => match op with
    | .makeFunc (.func g) xs cs => f == g && cs.isEmpty && opdsOk xs.toList caps
    | _ => false
  | .mkmap => match op with
    | .makeMap _ r => r.isNone
    | _ => false
  | .mupd ks x k v => match op with
    | .mapUpdate t x' k' v' | .insert t x' k' v' => opdOk x' x && opdOk k' k && opdOk v' v && (match mapTy P t with | some (kt, _) => kshOk P ks kt | none => false)
    | _ => false
  | .mdel ks x k => match op with
    | .call c => (match callOk c .delete with | some ([x', k'], t :: _) => opdOk x' x && opdOk k' k && (match mapTy P t with | some (kt, _) => kshOk P ks kt | none => false) | _ => false)
    | _ => false
  | .mentry ks zero x k => match op with
    | .mapEntry t x' k' => opdOk x' x && opdOk k' k && (match mapTy P t with | some (kt, et) => kshOk P ks kt && zeroV P zero et | none => false)
    | _ => false
  | .estore x s v => match op with
    | .entryStore _ x' s' v' => opdOk x' x && opdOk s' s && opdOk v' v
    | _ => false
  | .mclone x => match op with
    | .call c => (match c.callee with | .value (.func g) => opdsOk c.args.toList [x] && cloneFn P g | _ => false)
    | _ => false
  | .appM sz bytes s x => match op with
    | .call c => (match callOk c .append with
      | some ([s', x'], [t, u]) => opdOk s' s && opdOk x' x && noInt P u && (match sliceElem P t with
        | some e => szOk P sz e && byOk P bytes e && decide (0 < bytes) && decide (0 < sz) && (elemZero P e sz).isSome
        | none => false)
      | _ => false)
    | _ => false
  | .mksl _ sz bytes zero l c => match op with
    | .makeSlice t l' c' => opdOk l' l && opdOk c' c && (match sliceElem P t with
      | some e => szOk P sz e && byOk P bytes e && decide (0 < bytes) && decide (0 < sz) && (match elemZero P e sz with | some z => acsOk z zero | none => false)
      | none => false)
    | _ => false
  | .cpy sz x y => match op with
    | .call c => (match callOk c .copy with
      | some ([x', y'], t :: _) => opdOk x' x && opdOk y' y && (match sliceElem P t with | some e => szOk P sz e && decide (0 < sz) | none => false)
      | _ => false)
    | _ => false
  | .callv x args => match op with
    | .call c => (match c.callee with | .value (.tmp t) => opdOk (.tmp t) x && opdsOk c.args.toList args | _ => false)
    | _ => false
  | .sbytes x => match op with
    | .convert src dst y => opdOk y x && isStr P src && (match sliceElem P dst with | some e => isInt P .u8 e | none => false)
    | _ => false
  | .bytess x => match op with
    | .convert src dst y => opdOk y x && isStr P dst && (match sliceElem P src with | some e => isInt P .u8 e | none => false)
    | _ => false
  | .app sz bytes s x => match op with
    | .call c => (match callOk c .append with
      | some ([s', x'], [t, u]) => opdOk s' s && opdOk x' x && noInt P u && (match sliceElem P t with
        | some e => szOk P sz e && byOk P bytes e && decide (0 < bytes) && decide (0 < sz) && (elemZero P e sz).isSome
        | none => false)
      | _ => false)
    | _ => false
  | .store sz x y => match op with | .store t x' y' => opdOk x' x && opdOk y' y && szOk P sz t | _ => false
  | .call f args => match op with
    | .call c => (match c.callee with | .value (.func g) => f == g && opdsOk c.args.toList args && fnOk P f | _ => false)
    | _ => false

/-- The frame's slots, told. -/
structure EnvRep (G : Ghost) (nt : Nat) (env : Env) (a : Act) : Prop where
  size : a.tmps.size = nt
  defers : a.defers = []
  at_ : ∀ t, RepV G (get env t) (a.tmps.getD t undef)

theorem acOk_rep {G : Ghost} {v : Value} {x : AC} (h : acOk v x = true) : Rep G x v := by
  unfold acOk at h
  split at h
  · simp at h; obtain ⟨rfl, rfl⟩ := h; rfl
  · simp at h; subst h; rfl
  · rename_i s l
    simp at h
    show Value.string s = Value.string ⟨l.toArray⟩
    subst h
    simp
  · rfl
  · exact ⟨rfl, rfl⟩
  · rfl
  · rfl
  · cases h

theorem acsOk_rep {G : Ghost} : ∀ {vs : List Value} {cs : List AC}, acsOk vs cs = true → F2 (Rep G) cs vs
  | [], [], _ => .nil
  | v :: vs, c :: cs, h => by
    simp only [acsOk, Bool.and_eq_true] at h
    exact .cons (acOk_rep h.1) (acsOk_rep h.2)
  | [], _ :: _, h => by simp [acsOk] at h
  | _ :: _, [], h => by simp [acsOk] at h

theorem avOk_rep {G : Ghost} {v : Value} {x : AV} (h : avOk v x = true) : RepV G x v := by
  unfold avOk at h
  split at h
  · exact ⟨_, rfl, acsOk_rep h⟩
  · exact acOk_rep h
  · cases h

theorem opd_rep {G : Ghost} {nt : Nat} {env : Env} {a : Act} {o : Operand} {x : Opd} (he : EnvRep G nt env a) (h : opdOk o x = true) : RepV G (x.ev env) (a.eval o) := by
  unfold opdOk at h
  split at h
  · simp at h; subst h; exact he.at_ _
  · exact avOk_rep h
  · simp at h; subst h; exact ⟨#[], rfl, .inl ⟨rfl, rfl⟩⟩
  · cases h

end Go.Ab
