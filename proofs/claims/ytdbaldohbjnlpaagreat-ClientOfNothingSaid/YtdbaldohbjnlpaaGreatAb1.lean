/- Abstract values and states for walks: what a world holds, told by values; the order of worlds. Plain definitions and their first laws. -/
import Derived.Orders
import Derived.Laws.Cells
import Derived.Laws.World
set_option linter.unusedVariables false
set_option linter.unusedSimpArgs false
namespace Go.Ab

inductive F2 {α β : Type} (R : α → β → Prop) : List α → List β → Prop where
  | nil : F2 R [] []
  | cons {a : α} {b : β} {l : List α} {m : List β} : R a b → F2 R l m → F2 R (a :: l) (b :: m)

/-- What may be appended to: nil, one whose capacity is its length, one whose spare cells are a token's, or none of these. -/
inductive Cp where
  | nil | none | full | tok (id : Nat)
  deriving DecidableEq

/-- The value of one cell. A slice ('sl') tells its elements, each by its cells: they are never written again. 'rptr': a pointer to cells that are never written again. 'msl': a row that may be written, whole; 'rsl': some of its elements; 'psl': cells of one of its elements; 'ifm': a map, in an interface. -/
inductive AC where
  | int (k : IntKind) (n : Int)
  | bool (b : Bool)
  | str (s : List UInt8)
  | nilp
  | ptr (id i off : Nat)
  | rptr (cells : List AC)
  | sl (sz : Nat) (elems : List (List AC)) (c : Cp)
  | msl (id : Nat)
  | rsl (id lo n : Nat) (full : Bool)
  | psl (id i off sz n : Nat)
  | ifm (t : TypeId) (id : Nat)
  | nilmap
  | map (id : Nat)
  | nilfn
  | fn (f : Nat) (caps : List AC)
  | bfn (f : Nat) (caps : List AC)

inductive AV where
  | any
  | c (x : AC)
  | agg (cells : List AC)
  | tup (vs : List AV)

def AV.cells : AV → List AC
  | .c x => [x]
  | .agg cs => cs
  | _ => []

inductive AObj where
  | spare
  | row (es : List (List AC))
  | map (es : List (AV × AV × Nat)) (clock : Nat)

abbrev Heap := Nat → Option AObj

structure Place where
  blk : Nat
  sz : Nat
  len : Nat
  cap : Nat

structure Ghost where
  fx : Nat → Nat → AC → Prop
  obj : Nat → Option Place
  cap : Nat → Array Value → List AC → Prop

/-- Element i of a sealed row that begins at a block's place. -/
def SealRow (G : Ghost) (b o sz : Nat) (es : List (List AC)) : Prop :=
  ∀ (i : Nat) (e : List AC), es[i]? = some e → e.length = sz ∧ ∀ (j : Nat) (x : AC), e[j]? = some x → G.fx b (o + i * sz + j) x

def Rep (G : Ghost) : AC → Value → Prop
  | .int k n, v => v = .int k n
  | .bool b, v => v = .bool b
  | .str s, v => v = .string ⟨s.toArray⟩
  | .nilp, v => v = .pointer Option.none
  | .ptr id i off, v => ∃ pl, G.obj id = some pl ∧ v = .pointer (some ⟨pl.blk, i * pl.sz + off, Option.none⟩)
  | .rptr cells, v => ∃ b o, v = .pointer (some ⟨b, o, Option.none⟩) ∧ ∀ (j : Nat) (x : AC), cells[j]? = some x → G.fx b (o + j) x
  | .sl sz es .nil, v => es = [] ∧ v = .slice Option.none 0 0
  | .sl sz es .none, v => (∃ b o cap, v = .slice (some ⟨b, o, Option.none⟩) es.length cap ∧ es.length ≤ cap ∧ SealRow G b o sz es) ∨ (es = [] ∧ ∃ a cap, v = .slice a 0 cap)
  | .sl sz es .full, v => (∃ b o, v = .slice (some ⟨b, o, Option.none⟩) es.length es.length ∧ SealRow G b o sz es) ∨ (es = [] ∧ ∃ a, v = .slice a 0 0)
  | .sl sz es (.tok id), v => ∃ pl, G.obj id = some pl ∧ es.length = pl.len ∧ pl.len ≤ pl.cap ∧ pl.sz = sz ∧ v = .slice (some ⟨pl.blk, 0, Option.none⟩) pl.len pl.cap ∧ SealRow G pl.blk 0 sz es
  | .msl id, v => ∃ pl, G.obj id = some pl ∧ v = .slice (some ⟨pl.blk, 0, Option.none⟩) pl.len pl.cap
  | .rsl id lo n full, v => ∃ pl, G.obj id = some pl ∧ ((∃ cap, v = .slice (some ⟨pl.blk, lo * pl.sz, Option.none⟩) n cap ∧ n ≤ cap ∧ (full = true → cap = n)) ∨ (n = 0 ∧ ∃ a cap, v = .slice a 0 cap ∧ (full = true → cap = 0)))
  | .psl id i off sz n, v => ∃ pl, G.obj id = some pl ∧ ((∃ cap, v = .slice (some ⟨pl.blk, i * pl.sz + off, Option.none⟩) n cap ∧ n ≤ cap) ∨ (n = 0 ∧ ∃ a cap, v = .slice a 0 cap))
  | .ifm t id, v => ∃ pl, G.obj id = some pl ∧ v = .iface t (.map (some pl.blk))
  | .nilmap, v => v = .map Option.none
  | .map id, v => ∃ pl, G.obj id = some pl ∧ v = .map (some pl.blk)
  | .nilfn, v => v = .nilFunc
  | .fn f caps, v => ∃ vs, v = .func (.func f) #[] vs ∧ ((caps = [] ∧ vs = #[]) ∨ G.cap f vs caps)
  | .bfn f caps, v => ∃ vs, v = .func (.func f) vs #[] ∧ G.cap f vs caps

/-- A value that is no tuple. -/
def RepE (G : Ghost) : AV → Value → Prop
  | .any, _ => True
  | .c x, v => Rep G x v
  | .agg cs, v => ∃ vs : Array Value, v = .agg vs ∧ F2 (Rep G) cs vs.toList
  | .tup _, _ => False

def RepV (G : Ghost) : AV → Value → Prop
  | .tup xs, v => ∃ vs : Array Value, v = .tuple vs ∧ F2 (RepE G) xs vs.toList
  | x, v => RepE G x v

structure Ghost.Le (G G' : Ghost) : Prop where
  fx : ∀ b o x, G.fx b o x → G'.fx b o x
  obj : ∀ id pl, G.obj id = some pl → G'.obj id = some pl
  cap : ∀ f vs cs, G.cap f vs cs → G'.cap f vs cs

theorem Ghost.Le.refl (G : Ghost) : G.Le G := ⟨fun _ _ _ h => h, fun _ _ h => h, fun _ _ _ h => h⟩
theorem Ghost.Le.trans {A B C : Ghost} (h : A.Le B) (k : B.Le C) : A.Le C :=
  ⟨fun b o x g => k.fx _ _ _ (h.fx _ _ _ g), fun i p g => k.obj _ _ (h.obj _ _ g), fun f v c g => k.cap _ _ _ (h.cap _ _ _ g)⟩

theorem SealRow.mono {G G' : Ghost} (hG : G.Le G') {b o sz : Nat} {es : List (List AC)} (h : SealRow G b o sz es) : SealRow G' b o sz es :=
  fun i e he => ⟨(h i e he).1, fun j x hx => hG.fx _ _ _ ((h i e he).2 j x hx)⟩

theorem Rep.mono {G G' : Ghost} (hG : G.Le G') {x : AC} {v : Value} (h : Rep G x v) : Rep G' x v := by
  cases x with
  | ptr id i off => obtain ⟨pl, h1, h2⟩ := h; exact ⟨pl, hG.obj _ _ h1, h2⟩
  | rptr cells => obtain ⟨b, o, h1, h2⟩ := h; exact ⟨b, o, h1, fun j y hy => hG.fx _ _ _ (h2 j y hy)⟩
  | sl sz es c =>
    cases c with
    | nil => exact h
    | none =>
      rcases h with ⟨b, o, cap, h1, h2, h3⟩ | h
      · exact .inl ⟨b, o, cap, h1, h2, h3.mono hG⟩
      · exact .inr h
    | full =>
      rcases h with ⟨b, o, h1, h3⟩ | h
      · exact .inl ⟨b, o, h1, h3.mono hG⟩
      · exact .inr h
    | tok id => obtain ⟨pl, h1, h2, h3, h4, h5, h6⟩ := h; exact ⟨pl, hG.obj _ _ h1, h2, h3, h4, h5, h6.mono hG⟩
  | msl id => obtain ⟨pl, h1, h2⟩ := h; exact ⟨pl, hG.obj _ _ h1, h2⟩
  | rsl id lo n full => obtain ⟨pl, h1, h2⟩ := h; exact ⟨pl, hG.obj _ _ h1, h2⟩
  | psl id i off sz n => obtain ⟨pl, h1, h2⟩ := h; exact ⟨pl, hG.obj _ _ h1, h2⟩
  | ifm t id => obtain ⟨pl, h1, h2⟩ := h; exact ⟨pl, hG.obj _ _ h1, h2⟩
  | map id => obtain ⟨pl, h1, h2⟩ := h; exact ⟨pl, hG.obj _ _ h1, h2⟩
  | fn f caps => obtain ⟨vs, h1, h2⟩ := h; exact ⟨vs, h1, h2.imp id (hG.cap _ _ _)⟩
  | bfn f caps => obtain ⟨vs, h1, h2⟩ := h; exact ⟨vs, h1, hG.cap _ _ _ h2⟩
  | _ => exact h

theorem F2.imp {α β : Type} {R S : α → β → Prop} (h : ∀ a b, R a b → S a b) {l : List α} {m : List β} (H : F2 R l m) : F2 S l m := by
  induction H with
  | nil => exact .nil
  | cons a b ih => exact .cons (h _ _ a) ih

theorem RepE.mono {G G' : Ghost} (hG : G.Le G') {x : AV} {v : Value} (h : RepE G x v) : RepE G' x v := by
  cases x with
  | any => trivial
  | c x => exact Rep.mono hG h
  | agg cs => obtain ⟨vs, h1, h2⟩ := h; exact ⟨vs, h1, F2.imp (fun _ _ => Rep.mono hG) h2⟩
  | tup _ => exact h.elim

theorem RepV.mono {G G' : Ghost} (hG : G.Le G') {x : AV} {v : Value} (h : RepV G x v) : RepV G' x v := by
  cases x with
  | tup xs => obtain ⟨vs, h1, h2⟩ := h; exact ⟨vs, h1, F2.imp (fun _ _ => RepE.mono hG) h2⟩
  | any => trivial
  | c x => exact Rep.mono hG h
  | agg cs => exact RepE.mono (x := .agg cs) hG h

theorem RepE.toV {G : Ghost} {x : AV} {v : Value} (h : RepE G x v) : RepV G x v := by
  cases x with
  | tup _ => exact h.elim
  | _ => exact h

/-- The value of one cell is no aggregate. -/
theorem Rep.one {G : Ghost} {x : AC} {v : Value} (h : Rep G x v) : v.oneCell' = true := by
  cases x with
  | sl sz es c =>
    cases c with
    | nil => rw [h.2]; rfl
    | none => rcases h with ⟨b, o, cap, rfl, _⟩ | ⟨_, a, cap, rfl⟩ <;> rfl
    | full => rcases h with ⟨b, o, rfl, _⟩ | ⟨_, a, rfl⟩ <;> rfl
    | tok id => obtain ⟨pl, _, _, _, _, rfl, _⟩ := h; rfl
  | ptr id i off => obtain ⟨pl, _, rfl⟩ := h; rfl
  | rptr cells => obtain ⟨b, o, rfl, _⟩ := h; rfl
  | msl id => obtain ⟨pl, _, rfl⟩ := h; rfl
  | rsl id lo n full => rcases h with ⟨pl, _, ⟨cap, rfl, _⟩ | ⟨_, a, cap, rfl, _⟩⟩ <;> rfl
  | psl id i off sz n => rcases h with ⟨pl, _, ⟨cap, rfl, _⟩ | ⟨_, a, cap, rfl⟩⟩ <;> rfl
  | ifm t id => obtain ⟨pl, _, rfl⟩ := h; rfl
  | map id => obtain ⟨pl, _, rfl⟩ := h; rfl
  | fn f caps => obtain ⟨vs, rfl, _⟩ := h; rfl
  | bfn f caps => obtain ⟨vs, rfl, _⟩ := h; rfl
  | _ => (try simp only [Rep] at h); subst h; rfl

theorem Value.cells_one {v : Value} (h : v.oneCell' = true) : v.cells = #[v] := by cases v <;> first | rfl | (simp [Value.oneCell'] at h)

theorem RepE.cells {G : Ghost} {x : AV} {v : Value} (h : RepE G x v) (hx : x ≠ .any) : F2 (Rep G) x.cells v.cells.toList := by
  cases x with
  | any => exact absurd rfl hx
  | c x => rw [Value.cells_one (Rep.one h)]; exact .cons h .nil
  | agg cs => obtain ⟨vs, rfl, h⟩ := h; exact h
  | tup _ => exact h.elim

theorem F2.length {α β : Type} {R : α → β → Prop} {l : List α} {m : List β} (H : F2 R l m) : l.length = m.length := by
  induction H with
  | nil => rfl
  | cons _ _ ih => simp [ih]

theorem F2.get {α β : Type} {R : α → β → Prop} {l : List α} {m : List β} (H : F2 R l m) : ∀ (i : Nat) (x : α), l[i]? = some x → ∃ y, m[i]? = some y ∧ R x y := by
  induction H with
  | nil => intro i x h; simp at h
  | cons a _ ih =>
    intro i x h
    cases i with
    | zero => simp at h; subst h; exact ⟨_, by simp, a⟩
    | succ i => simp at h; obtain ⟨y, h1, h2⟩ := ih i x h; exact ⟨y, by simpa using h1, h2⟩

theorem F2.of_get {α β : Type} {R : α → β → Prop} : ∀ {l : List α} {m : List β}, l.length = m.length → (∀ (i : Nat) (x : α), l[i]? = some x → ∃ y, m[i]? = some y ∧ R x y) → F2 R l m
  | [], [], _, _ => .nil
  | [], _ :: _, h, _ => by simp at h
  | _ :: _, [], h, _ => by simp at h
  | a :: l, b :: m, h, H => by
    obtain ⟨y, h1, h2⟩ := H 0 a (by simp)
    simp at h1
    subst h1
    exact .cons h2 (F2.of_get (by simpa using h) fun i x hx => by
      obtain ⟨y, h3, h4⟩ := H (i + 1) x (by simpa using hx)
      exact ⟨y, by simpa using h3, h4⟩)

theorem F2.append {α β : Type} {R : α → β → Prop} {l l' : List α} {m m' : List β} (H : F2 R l m) (K : F2 R l' m') : F2 R (l ++ l') (m ++ m') := by
  induction H with
  | nil => exact K
  | cons a _ ih => exact .cons a ih

theorem F2.take {α β : Type} {R : α → β → Prop} {l : List α} {m : List β} (H : F2 R l m) : ∀ n, F2 R (l.take n) (m.take n) := by
  induction H with
  | nil => intro n; simpa using F2.nil
  | cons a _ ih => intro n; cases n with
    | zero => simpa using F2.nil
    | succ n => simpa using .cons a (ih n)

theorem F2.drop {α β : Type} {R : α → β → Prop} {l : List α} {m : List β} (H : F2 R l m) : ∀ n, F2 R (l.drop n) (m.drop n) := by
  induction H with
  | nil => intro n; simpa using F2.nil
  | cons a h ih => intro n; cases n with
    | zero => simpa using .cons a h
    | succ n => simpa using ih n

theorem F2.set {α β : Type} {R : α → β → Prop} {l : List α} {m : List β} (H : F2 R l m) : ∀ (n : Nat) {x : α} {y : β}, R x y → F2 R (l.set n x) (m.set n y) := by
  induction H with
  | nil => intro n x y _; simpa using F2.nil
  | cons a h ih => intro n x y hxy; cases n with
    | zero => simpa using .cons hxy h
    | succ n => simpa using .cons a (ih n hxy)

/-- What an object of the heap is in the world. 'free': none of the cells that are its own is frozen. -/
def Unfrozen (fr : Nat × Nat) (n : Nat) : Prop := ∀ o, o < n → ¬ (fr.1 ≤ o ∧ o < fr.2)

/-- An entry of a map, told: its key, its value, when it was born. -/
structure MapE (G : Ghost) (e : AV × AV × Nat) (m : MapEntry) : Prop where
  key : RepE G e.1 m.key
  kne : e.1 ≠ .any
  val : RepE G e.2.1 m.val
  vne : e.2.1 ≠ .any
  born : m.born = e.2.2

def ObjOk (G : Ghost) (w : World) (pl : Place) : AObj → Prop
  | .spare => ∃ cs el fr, w.heap[pl.blk]? = some (.cells cs el fr) ∧ pl.cap * pl.sz ≤ cs.size ∧ Unfrozen fr (pl.cap * pl.sz)
  | .row es => es.length = pl.len ∧ pl.len ≤ pl.cap ∧ ∃ cs el fr, w.heap[pl.blk]? = some (.cells cs el fr) ∧ pl.cap * pl.sz ≤ cs.size ∧ Unfrozen fr (pl.cap * pl.sz) ∧
      ∀ (i : Nat) (e : List AC), es[i]? = some e → e.length = pl.sz ∧ ∀ (j : Nat) (x : AC), e[j]? = some x → ∃ v, cs[i * pl.sz + j]? = some v ∧ Rep G x v
  | .map es clock => ∃ en, w.heap[pl.blk]? = some (.map en clock) ∧ F2 (MapE G) es en.toList ∧ (∀ e ∈ es, e.2.2 < clock) ∧ (es.map (·.2.2)).Nodup

structure Inv (G : Ghost) (h : Heap) (w : World) : Prop where
  fx : ∀ b o x, G.fx b o x → ∃ v, w.cell? ⟨b, o, Option.none⟩ = some v ∧ Rep G x v
  cap : ∀ f vs cs, G.cap f vs cs → F2 (Rep G) cs vs.toList
  obj : ∀ id ob, h id = some ob → ∃ pl, G.obj id = some pl ∧ ObjOk G w pl ob
  excl : ∀ id id' pl pl', h id ≠ Option.none → h id' ≠ Option.none → G.obj id = some pl → G.obj id' = some pl' → pl.blk = pl'.blk → id = id'
  exclS : ∀ id pl o x, h id ≠ Option.none → G.obj id = some pl → G.fx pl.blk o x → h id = some .spare ∧ o < pl.len * pl.sz

/-- Block b is one that the heap's objects own. -/
def Live (G : Ghost) (h : Heap) (b : Nat) : Prop := ∃ id pl, h id ≠ Option.none ∧ G.obj id = some pl ∧ pl.blk = b

/-- From one state to a later one. -/
structure Ext (G : Ghost) (h : Heap) (n : Nat) (w : World) (G' : Ghost) (h' : Heap) (n' : Nat) (w' : World) : Prop where
  le : G.Le G'
  os : w'.os = w.os
  tape : w'.tape = w.tape
  output : w'.output = w.output
  size : w.heap.size ≤ w'.heap.size
  keep : ∀ b, b < w.heap.size → ¬ Live G h b → w'.heap[b]? = w.heap[b]?
  live : ∀ b, Live G' h' b → w.heap.size ≤ b ∨ Live G h b
  next : n ≤ n'
  fresh : ∀ id, n' ≤ id → h' id = Option.none ∧ G'.obj id = Option.none

def Fresh (G : Ghost) (h : Heap) (n : Nat) : Prop := ∀ id, n ≤ id → h id = Option.none ∧ G.obj id = Option.none

theorem Ext.refl {G : Ghost} {h : Heap} {n : Nat} (w : World) (hf : Fresh G h n) : Ext G h n w G h n w :=
  ⟨.refl G, rfl, rfl, rfl, Nat.le_refl _, fun _ _ _ => rfl, fun _ h => .inr h, Nat.le_refl _, hf⟩

theorem Ext.trans {G G1 G2 : Ghost} {h h1 h2 : Heap} {n n1 n2 : Nat} {w w1 w2 : World} (a : Ext G h n w G1 h1 n1 w1) (b : Ext G1 h1 n1 w1 G2 h2 n2 w2) : Ext G h n w G2 h2 n2 w2 :=
  ⟨a.le.trans b.le, b.os.trans a.os, b.tape.trans a.tape, b.output.trans a.output, Nat.le_trans a.size b.size,
    fun k hk hl => by
      refine (b.keep k (Nat.lt_of_lt_of_le hk a.size) fun hl1 => ?_).trans (a.keep k hk hl)
      rcases a.live k hl1 with h | h
      · omega
      · exact hl h,
    fun k hk => by
      rcases b.live k hk with h | h
      · exact .inl (Nat.le_trans a.size h)
      · exact a.live k h,
    Nat.le_trans a.next b.next, b.fresh⟩

theorem Ext.freshen {G G1 : Ghost} {h h1 : Heap} {n n1 : Nat} {w w1 : World} (a : Ext G h n w G1 h1 n1 w1) : Fresh G1 h1 n1 := a.fresh

/-- Fewer objects. -/
def Sub (h' h : Heap) : Prop := ∀ id ob, h' id = some ob → h id = some ob

theorem Sub.ne {h' h : Heap} (s : Sub h' h) {id : Nat} (hn : h' id ≠ Option.none) : h id ≠ Option.none := by
  cases e : h' id with
  | none => exact absurd e hn
  | some ob => rw [s id ob e]; simp

theorem Sub.eq_of {h' h : Heap} (s : Sub h' h) {id : Nat} {ob : AObj} (hn : h' id ≠ Option.none) (he : h id = some ob) : h' id = some ob := by
  cases e : h' id with
  | none => exact absurd e hn
  | some o => rw [s id o e] at he; rw [← he]

theorem Sub.none {h' h : Heap} (s : Sub h' h) {id : Nat} (hn : h id = Option.none) : h' id = Option.none := by
  cases e : h' id with
  | none => rfl
  | some o => rw [s id o e] at hn; cases hn

theorem Inv.sub {G : Ghost} {h h' : Heap} {w : World} (i : Inv G h w) (s : Sub h' h) : Inv G h' w :=
  ⟨i.fx, i.cap, fun id ob e => i.obj id ob (s id ob e), fun id id' pl pl' a b => i.excl id id' pl pl' (s.ne a) (s.ne b),
    fun id pl o x a b c => by
      obtain ⟨h1, h2⟩ := i.exclS id pl o x (s.ne a) b c
      exact ⟨s.eq_of a h1, h2⟩⟩

theorem Live.sub {G : Ghost} {h h' : Heap} (s : Sub h' h) {b : Nat} (l : Live G h' b) : Live G h b := by
  obtain ⟨id, pl, a, b, c⟩ := l
  exact ⟨id, pl, s.ne a, b, c⟩

theorem Ext.sub {G G1 : Ghost} {h h1 h2 : Heap} {n n1 : Nat} {w w1 : World} (a : Ext G h n w G1 h1 n1 w1) (s : Sub h2 h1) : Ext G h n w G1 h2 n1 w1 :=
  ⟨a.le, a.os, a.tape, a.output, a.size, a.keep, fun b hb => a.live b (hb.sub s), a.next, fun id hid => ⟨s.none (a.fresh id hid).1, (a.fresh id hid).2⟩⟩

end Go.Ab
