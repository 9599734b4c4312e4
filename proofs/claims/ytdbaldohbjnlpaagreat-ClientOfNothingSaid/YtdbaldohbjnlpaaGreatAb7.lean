/- Making: new rows, new objects. -/
import Derived.Test.YtdbaldohbjnlpaaGreatAb6
set_option linter.unusedVariables false
set_option linter.unusedSimpArgs false
namespace Go.Ab

/-- A row of cells more is told. -/
def Ghost.addRow (G : Ghost) (b base sz : Nat) (es : List (List AC)) : Ghost :=
  { G with fx := fun b' o x => G.fx b' o x ∨ (b' = b ∧ ∃ i e j, es[i]? = some e ∧ e[j]? = some x ∧ j < sz ∧ i < es.length ∧ o = base + i * sz + j) }
/-- Captured values more are told. -/
def Ghost.addCap (G : Ghost) (f : Nat) (vs : Array Value) (cs : List AC) : Ghost := { G with cap := fun f' vs' cs' => G.cap f' vs' cs' ∨ (f' = f ∧ vs' = vs ∧ cs' = cs) }
def Ghost.addObj (G : Ghost) (n : Nat) (pl : Place) : Ghost := { G with obj := fun i => if i = n then some pl else G.obj i }

theorem Ghost.le_addRow (G : Ghost) (b base sz : Nat) (es : List (List AC)) : G.Le (G.addRow b base sz es) :=
  ⟨fun _ _ _ h => .inl h, fun _ _ h => h, fun _ _ _ h => h⟩
theorem Ghost.le_addObj {G : Ghost} {n : Nat} (pl : Place) (hn : G.obj n = none) : G.Le (G.addObj n pl) :=
  ⟨fun _ _ _ h => h, fun i p h => by
    simp only [Ghost.addObj]
    split
    · rename_i e; subst e; rw [hn] at h; cases h
    · exact h, fun _ _ _ h => h⟩

theorem Ghost.le_addCap (G : Ghost) (f : Nat) (vs : Array Value) (cs : List AC) : G.Le (G.addCap f vs cs) := ⟨fun _ _ _ h => h, fun _ _ h => h, fun _ _ _ h => .inl h⟩
theorem Inv.addCap {G : Ghost} {h : Heap} {w : World} (hi : Inv G h w) {f : Nat} {vs : Array Value} {cs : List AC} (hc : F2 (Rep G) cs vs.toList) : Inv (G.addCap f vs cs) h w :=
  have hG := G.le_addCap f vs cs
  ⟨fun b' o x hx => by
      obtain ⟨v, h1, h2⟩ := hi.fx _ _ _ hx; exact ⟨v, h1, h2.mono hG⟩,
    fun f' vs' cs' hx => by
      rcases hx with hx | ⟨rfl, rfl, rfl⟩
      · exact F2.imp (fun _ _ => Rep.mono hG) (hi.cap f' vs' cs' hx)
      · exact F2.imp (fun _ _ => Rep.mono hG) hc,
    fun id ob e => by
      obtain ⟨pl, h1, h2⟩ := hi.obj id ob e
      exact ⟨pl, h1, h2.of_block hG rfl⟩, hi.excl, hi.exclS⟩

theorem addRow_row {G : Ghost} {b base sz : Nat} {es : List (List AC)} (hs : ∀ e ∈ es, e.length = sz) : SealRow (G.addRow b base sz es) b base sz es := by
  intro i e he
  have h1 := hs e (List.mem_of_getElem? he)
  refine ⟨h1, fun j x hx => .inr ⟨rfl, i, e, j, he, hx, ?_, ?_, rfl⟩⟩
  · rw [← h1]; exact (List.getElem?_eq_some_iff.1 hx).1
  · exact (List.getElem?_eq_some_iff.1 he).1

theorem Inv.addRow {G : Ghost} {h : Heap} {w : World} (hi : Inv G h w) {b base sz : Nat} {es : List (List AC)} (hl : ¬ Live G h b)
    (hc : ∀ (i : Nat) (e : List AC) (j : Nat) (x : AC), es[i]? = some e → e[j]? = some x → j < sz → ∃ v, w.cell? ⟨b, base + i * sz + j, none⟩ = some v ∧ Rep G x v) : Inv (G.addRow b base sz es) h w :=
  have hG := G.le_addRow b base sz es
  ⟨fun b' o x hx => by
      rcases hx with hx | ⟨rfl, i, e, j, h1, h2, h3, h4, rfl⟩
      · obtain ⟨v, h1, h2⟩ := hi.fx _ _ _ hx; exact ⟨v, h1, h2.mono hG⟩
      · obtain ⟨v, h5, h6⟩ := hc i e j x h1 h2 h3; exact ⟨v, h5, h6.mono hG⟩,
    fun f vs cs hx => F2.imp (fun _ _ => Rep.mono hG) (hi.cap f vs cs hx),
    fun id ob e => by
      obtain ⟨pl, h1, h2⟩ := hi.obj id ob e
      exact ⟨pl, h1, h2.of_block hG rfl⟩, hi.excl,
    fun id pl o x h1 h2 hx => by
      rcases hx with hx | ⟨h3, _⟩
      · exact hi.exclS id pl o x h1 h2 hx
      · exact absurd ⟨id, pl, h1, h2, h3⟩ hl⟩

theorem upd_self (h : Heap) (n : Nat) (ob : AObj) : h.upd n ob n = some ob := by simp [Heap.upd]
theorem upd_ne {h : Heap} {n i : Nat} {ob : AObj} (hn : i ≠ n) : h.upd n ob i = h i := by simp [Heap.upd, hn]

theorem Inv.addObj {G : Ghost} {h : Heap} {w : World} (hi : Inv G h w) {n : Nat} {pl : Place} {ob : AObj} (hn : h n = none) (hg : G.obj n = none) (hl : ¬ Live G h pl.blk)
    (ho : ObjOk G w pl ob) (hx : ∀ o x, G.fx pl.blk o x → ob = .spare ∧ o < pl.len * pl.sz) : Inv (G.addObj n pl) (h.upd n ob) w := by
  have hG := Ghost.le_addObj pl hg
  have hob : ∀ i, i ≠ n → (G.addObj n pl).obj i = G.obj i := fun i hi => by simp [Ghost.addObj, hi]
  have hon : (G.addObj n pl).obj n = some pl := by simp [Ghost.addObj]
  refine ⟨fun b o x h1 => ?_, fun f vs cs h1 => F2.imp (fun _ _ => Rep.mono hG) (hi.cap f vs cs h1), fun id o' e => ?_, fun id id' p p' h1 h2 h3 h4 h5 => ?_, fun id p o x h1 h2 h3 => ?_⟩
  · obtain ⟨v, h2, h3⟩ := hi.fx b o x h1
    exact ⟨v, h2, h3.mono hG⟩
  · by_cases hid : id = n
    · subst hid
      rw [upd_self] at e; cases e
      exact ⟨pl, hon, ho.of_block hG rfl⟩
    · rw [upd_ne hid] at e
      obtain ⟨p, h2, h3⟩ := hi.obj id o' e
      exact ⟨p, hG.obj _ _ h2, h3.of_block hG rfl⟩
  · by_cases hid : id = n
    · by_cases hid' : id' = n
      · rw [hid, hid']
      · subst hid
        rw [hon] at h3; cases h3
        rw [hob _ hid'] at h4; rw [upd_ne hid'] at h2
        exact absurd ⟨id', p', h2, h4, h5.symm⟩ hl
    · by_cases hid' : id' = n
      · subst hid'
        rw [hon] at h4; cases h4
        rw [hob _ hid] at h3; rw [upd_ne hid] at h1
        exact absurd ⟨id, p, h1, h3, h5⟩ hl
      · rw [hob _ hid] at h3; rw [hob _ hid'] at h4; rw [upd_ne hid] at h1; rw [upd_ne hid'] at h2
        exact hi.excl id id' p p' h1 h2 h3 h4 h5
  · by_cases hid : id = n
    · subst hid
      rw [hon] at h2; cases h2
      obtain ⟨rfl, h4⟩ := hx o x h3
      exact ⟨upd_self _ _ _, h4⟩
    · rw [hob _ hid] at h2; rw [upd_ne hid] at h1 ⊢
      exact hi.exclS id p o x h1 h2 h3

theorem Live.addObj {G : Ghost} {h : Heap} {n : Nat} {pl : Place} {ob : AObj} {b : Nat} (hl : Live (G.addObj n pl) (h.upd n ob) b) : b = pl.blk ∨ Live G h b := by
  obtain ⟨id, p, h1, h2, h3⟩ := hl
  by_cases hid : id = n
  · subst hid
    have : (G.addObj id pl).obj id = some pl := by simp [Ghost.addObj]
    rw [this] at h2; cases h2
    exact .inl h3.symm
  · rw [upd_ne hid] at h1
    have : (G.addObj n pl).obj id = G.obj id := by simp [Ghost.addObj, hid]
    rw [this] at h2
    exact .inr ⟨id, p, h1, h2, h3⟩

theorem Live.addRow {G : Ghost} {h : Heap} {b' base sz : Nat} {es : List (List AC)} {b : Nat} : Live (G.addRow b' base sz es) h b ↔ Live G h b := Iff.rfl

theorem Fresh.upd {G : Ghost} {h : Heap} {n : Nat} (hf : Fresh G h n) (pl : Place) (ob : AObj) : Fresh (G.addObj n pl) (h.upd n ob) (n + 1) := by
  intro id hid
  have h1 := hf id (by omega)
  have h2 : id ≠ n := by omega
  exact ⟨by rw [upd_ne h2]; exact h1.1, by simp [Ghost.addObj, h2, h1.2]⟩

theorem new_cell (w : World) (cs : Array Value) (el : TypeId) (fr : Nat × Nat) (o : Nat) : ({ w with heap := w.heap.push (.cells cs el fr) } : World).cell? ⟨w.heap.size, o, none⟩ = cs[o]? := by
  simp [World.cell?]

theorem not_live_new {G : Ghost} {h : Heap} {w : World} (hi : Inv G h w) : ¬ Live G h w.heap.size := fun hl => by have := live_lt hi hl; omega

section
variable {P : Program} {G : Ghost} {h : Heap} {w : World} {nt : Nat} {env : Env} {a : Act}

theorem told_get {cs : List AC} {vs : List Value} (hr : F2 (Rep G) cs vs) {j : Nat} {x : AC} (hx : cs[j]? = some x) : ∃ v, vs[j]? = some v ∧ Rep G x v := F2.get hr j x hx

/-- A new block whose cells are told. -/
theorem Inv.newRow (hi : Inv G h w) {w' : World} (hs : Same w w') {cs : Array Value} {el : TypeId} {fr : Nat × Nat} {b : Nat} (hb : w'.heap[b]? = some (.cells cs el fr)) (hge : w.heap.size ≤ b) {sz : Nat} {es : List (List AC)}
    (hc : ∀ (i : Nat) (e : List AC) (j : Nat) (x : AC), es[i]? = some e → e[j]? = some x → j < sz → ∃ v, cs[i * sz + j]? = some v ∧ Rep G x v) : Inv (G.addRow b 0 sz es) h w' :=
  (hi.same hs).addRow (fun hl => by have := live_lt hi hl; omega) (fun i e j x h1 h2 h3 => by
    obtain ⟨v, h4, h5⟩ := hc i e j x h1 h2 h3
    exact ⟨v, by simpa [World.cell?, hb] using h4, h5⟩)

theorem elemZero_some {e : TypeId} {sz : Nat} {z : List Value} (h : elemZero P e sz = some z) : ∃ i zv, P.info? e = some i ∧ i.zero = some zv ∧ zv.cells.size = sz ∧ z = zv.cells.toList ∧ ∀ v ∈ z, v.oneCell' = true := by
  unfold elemZero at h
  split at h
  · rename_i i hi
    split at h
    · rename_i zv hz
      split at h
      · rename_i hc
        cases h
        exact ⟨i, zv, hi, hz, hc.1, rfl, fun v hv => List.all_eq_true.1 hc.2 v hv⟩
      · cases h
    · cases h
  · cases h

theorem zeros_aux {z : List Value} {sz : Nat} (hz : z.length = sz) (hs : 0 < sz) (d : Value) : ∀ n, (List.range (n * sz)).map (fun i => z.getD (i % sz) d) = (List.replicate n z).flatten
  | 0 => by simp
  | n + 1 => by
    rw [Nat.succ_mul, Nat.add_comm, List.range_add, List.map_append, List.map_map, List.replicate_succ, List.flatten_cons, ← zeros_aux hz hs d n]
    congr 1
    · apply List.ext_getElem?
      intro i
      by_cases hi : i < sz
      · simp [hi, Nat.mod_eq_of_lt hi, List.getD, List.getElem?_eq_getElem (show i < z.length by omega)]
      · simp [hi, List.getElem?_eq_none (show z.length ≤ i by omega)]
    · apply List.map_congr_left
      intro i _
      simp
theorem zeros_list {zv : Value} {sz : Nat} (hz : zv.cells.size = sz) (hs : 0 < sz) (n : Nat) : ((Array.range (n * sz)).map (zv.cells[· % zv.cells.size]!)).toList = (List.replicate n zv.cells.toList).flatten := by
  rw [← zeros_aux (z := zv.cells.toList) (by simpa using hz) hs default n]
  simp only [Array.toList_map, Array.toList_range, hz]
  apply List.map_congr_left
  intro i _
  have : i % sz < zv.cells.size := by rw [hz]; exact Nat.mod_lt _ hs
  simp [List.getD, this, getElem!_pos zv.cells (i % sz) this]

theorem fills_length {env : Env} : ∀ (ps : List (Nat × Nat × Opd)) (cs : List AC), fillsOk env cs.length ps → (fills env cs ps).length = cs.length
  | [], cs, _ => rfl
  | (i, sz, x) :: r, cs, ⟨h1, h2, h3⟩ => by
    have h4 : (lay cs i (x.ev env).cells).length = cs.length := lay_length (by omega)
    simp only [fills]
    rw [fills_length r _ (by rw [h4]; exact h3), h4]

theorem freeze_push (w : World) (C : Array Value) (e : TypeId) (n : Nat) : ({ w with heap := w.heap.push (.cells C e (0, 0)) } : World).freeze ⟨w.heap.size, n, none⟩ 1 = { w with heap := w.heap.push (.cells C e (n, n + 1)) } := by
  unfold World.freeze
  simp only [Nat.one_ne_zero, if_false]
  congr 1
  apply Array.ext_getElem?
  intro i
  rw [Array.getElem?_modify, Array.getElem?_push, Array.getElem?_push]
  by_cases hi : w.heap.size = i
  · subst hi; simp
  · have : ¬ i = w.heap.size := fun h => hi h.symm
    simp [hi, this]

theorem strBytes_run (e : TypeId) (s : List UInt8) : ∃ (cap : Nat) (C : Array Value) (w' : World), (∀ (i : Nat) (b : UInt8), s[i]? = some b → C[i]? = some (.int .u8 b.toNat)) ∧ s.length ≤ cap ∧
    (Conv.stringToBytes e ⟨s.toArray⟩).run P w = .ok (.slice (some ⟨w.heap.size, 0, none⟩) s.length cap) w' ∧ w'.heap[w.heap.size]? = some (.cells C e (cap, cap + 1)) ∧ Same w w' ∧ C.size = cap := by
  have hcut : ∀ t, (Question.appendCap s.length 0 e).cut t = s.length + t % (2 ^ 63 - s.length) := fun t => rfl
  generalize hcap : s.length + w.tape w.drawn (.appendCap s.length 0 e) % (2 ^ 63 - s.length) = cap
  have hle : s.length ≤ cap := by omega
  have hsz : (s.toArray.map (fun (b : UInt8) => Value.int .u8 b.toNat) ++ Array.replicate (cap - s.length) (Value.int .u8 0)).size = cap := by simp; omega
  refine ⟨cap, s.toArray.map (fun (b : UInt8) => Value.int .u8 b.toNat) ++ Array.replicate (cap - s.length) (Value.int .u8 0), { w with drawn := w.drawn + 1, heap := w.heap.push (.cells (s.toArray.map (fun (b : UInt8) => Value.int .u8 b.toNat) ++ Array.replicate (cap - s.length) (Value.int .u8 0)) e (cap, cap + 1)) }, fun i b hb => ?_, hle, ?_, by simp, ?_, hsz⟩
  · have hlt := (List.getElem?_eq_some_iff.1 hb).1
    rw [Array.getElem?_append_left (by simpa using hlt)]
    simp [hb]
  · have hq : (Question.appendCap s.length 0 e).forced = false := rfl
    unfold Conv.stringToBytes
    simp only [Sem.run_bind, run_choose, str_size, hq, Bool.false_eq_true, if_false, Result.andThen_ok, hcut, hcap, newRow, run_newObj, Sem.run_pure, markStringish, run_shape]
    simp only [World.shape?, Array.getElem?_push_size, hsz]
    simp only [run_freeze, Result.andThen_ok]
    have hf := freeze_push { w with drawn := w.drawn + 1 } (s.toArray.map (fun (b : UInt8) => Value.int .u8 b.toNat) ++ Array.replicate (cap - s.length) (Value.int .u8 0)) e cap
    simp only at hf
    rw [hf]
  · exact (Same.drew w).trans (Same.alloc _ _)

theorem make_run {x : AOp} (ha : makes x = true) (hi : Inv G h w) (he : EnvRep G nt env a) {o : Oper} (hk : opOk P x o.op = true) {c : Prop} {v : AV} (hv : fl x env h = some (c, v)) (hc : c) :
    ∃ cv w' G', (execOp a.eval o).run P w = .ok (.value cv) w' ∧ RepV G' v cv ∧ Inv G' h w' ∧ G.Le G' ∧ G'.obj = G.obj ∧ Same w w' := by
  obtain ⟨dst, op, ty, pos, af, gd⟩ := o
  simp only at hk
  cases x with
  | boxR x =>
    simp only [opOk] at hk
    split at hk
    · rename_i t y
      have key : ∃ cs, RepE G (x.ev env) (a.eval y) ∧ x.ev env ≠ .any ∧ (x.ev env).cells = cs ∧ c = True ∧ v = .c (.rptr cs) := by
        have h1 := opd_rep he hk
        simp only [fl] at hv
        split at hv <;> cases hv <;> rename_i hx <;> rw [hx] at h1 ⊢
        · exact ⟨_, h1, by simp, rfl, rfl, rfl⟩
        · exact ⟨_, h1, by simp, rfl, rfl, rfl⟩
      obtain ⟨cs, h1, h2, h3, h4, rfl⟩ := key
      have h5 := h1.cells h2
      rw [h3] at h5
      refine ⟨.pointer (some ⟨w.heap.size, 0, none⟩), _, G.addRow w.heap.size 0 cs.length [cs], by simp only [execOp, Instr.box, newVar, newRow, Sem.run_bind, run_newObj, Result.andThen_ok, Sem.run_pure]; rfl, ?_, ?_, G.le_addRow _ _ _ _, rfl, Same.alloc w _⟩
      · refine ⟨w.heap.size, 0, rfl, fun j x hx => .inr ⟨rfl, 0, cs, j, by simp, hx, (List.getElem?_eq_some_iff.1 hx).1, by simp, by simp⟩⟩
      · refine hi.newRow (Same.alloc w _) (cs := (a.eval y).cells) (el := t) (fr := (0, 0)) (by simp) (Nat.le_refl _) (fun i e j x h6 h7 h8 => ?_)
        cases i with
        | zero => simp at h6; subst h6; obtain ⟨v, h9, h10⟩ := told_get h5 h7; exact ⟨v, by simpa using h9, h10⟩
        | succ i => simp at h6
    · cases hk
  | slR sz n zero ps =>
    cases hv
    simp only [opOk] at hk
    split at hk
    · rename_i t m parts
      simp only [Bool.and_eq_true, beq_iff_eq, decide_eq_true_eq] at hk
      obtain ⟨⟨⟨rfl, k1⟩, k2⟩, k3⟩ := hk
      split at k3
      · rename_i e hg
        simp only [Bool.and_eq_true] at k3
        obtain ⟨⟨k4, k5⟩, k6⟩ := k3
        split at k6
        · rename_i z hz
          obtain ⟨ie, zv, h1, h2, h3, rfl, h4⟩ := elemZero_some hz
          obtain ⟨ie', h5, h6⟩ := szOk_some k5
          rw [h1] at h5; cases h5
          subst h6
          have hz2 : ((Array.range (m * ie.size)).map (zv.cells[· % zv.cells.size]!)).toList = (List.replicate m zv.cells.toList).flatten := by
            exact zeros_list h3 (Nat.pos_of_ne_zero (fun h0 => by rw [h0] at k2; simp at k2)) m
          have hrep : F2 (Rep G) zero ((Array.range (m * ie.size)).map (zv.cells[· % zv.cells.size]!)).toList := by
            rw [hz2]; exact acsOk_rep k6
          have hlen : zero.length = m * ie.size := by
            rw [F2.length hrep]; simp
          obtain ⟨cells', h8, h9⟩ := fill_told (place := fun i => some (i * ie.size, ie.size)) _ ps ((Array.range (m * ie.size)).map (zv.cells[· % zv.cells.size]!)) zero hrep (rowParts_rep he _ _ k4) hc
          have h10 := run_buildSlice (P := P) w t e m (parts.map fun (i, x) => (i, a.eval x)) cells' ie zv (sliceElem_some hg) h1 h2 (by omega) (by omega) (by simpa using h8)
          have hfl : (fills env zero ps).length = m * ie.size := by rw [fills_length ps zero hc, hlen]
          refine ⟨_, _, G.addRow w.heap.size 0 ie.size (groups ie.size m (fills env zero ps)), by simp only [execOp, Sem.run_bind, h10, Result.andThen_ok]; rfl, ?_, ?_, G.le_addRow _ _ _ _, rfl, Same.alloc w _⟩
          · refine .inl ⟨w.heap.size, 0, by rw [groups_length], addRow_row (fun e' he' => ?_)⟩
            obtain ⟨i, hi'⟩ := List.mem_iff_getElem?.1 he'
            rw [groups_get] at hi'
            split at hi'
            · cases hi'
              rename_i hlt
              have h1 : i * ie.size + ie.size ≤ m * ie.size := by rw [← Nat.succ_mul]; exact Nat.mul_le_mul_right _ hlt
              simp only [List.length_take, List.length_drop]; omega
            · cases hi'
          · refine hi.newRow (Same.alloc w _) (cs := cells') (el := e) (fr := (0, 0)) (by simp [World.alloc]) (Nat.le_refl _) (fun i e' j x h11 h12 h13 => ?_)
            rw [groups_get] at h11
            split at h11
            · cases h11
              rw [List.getElem?_take_of_lt h13, List.getElem?_drop] at h12
              obtain ⟨v, h14, h15⟩ := told_get h9 h12
              exact ⟨v, by simpa using h14, h15⟩
            · cases h11
        · cases k6
      · cases k3
    · cases hk
  | mkfn f caps =>
    cases hv
    simp only [opOk] at hk
    split at hk
    · rename_i g first xs
      simp only [Bool.and_eq_true, beq_iff_eq] at hk
      obtain ⟨⟨rfl, k1⟩, k2⟩ := hk
      have hf0 : first = #[] := by simpa using k1
      subst hf0
      obtain ⟨c1, c2⟩ := hc
      have key : ∀ (xs : List Operand) (ys : List Opd), opdsOk xs ys = true → (ys.map (·.ev env)).all avOk1 = true → (ys.map (·.ev env)).all isC = true →
          F2 (Rep G) ((ys.map (·.ev env)).flatMap AV.cells) (xs.map a.eval) := by
        intro xs
        induction xs with
        | nil =>
          intro ys h1 _ _
          cases ys with
          | nil => exact .nil
          | cons _ _ => simp [opdsOk] at h1
        | cons x xs ih =>
          intro ys h1 h2 h3
          cases ys with
          | nil => simp [opdsOk] at h1
          | cons y ys =>
            simp only [opdsOk, Bool.and_eq_true] at h1
            simp only [List.map_cons, List.all_cons, Bool.and_eq_true] at h2 h3
            have hr := opd_rep he h1.1
            obtain ⟨hE, hne⟩ := avOk1_E h2.1 hr
            have hcs := hE.cells hne
            have rest := ih ys h1.2 h2.2 h3.2
            simp only [List.map_cons, List.flatMap_cons]
            have : F2 (Rep G) (y.ev env).cells [a.eval x] := by
              cases hy : y.ev env with
              | any => exact absurd hy hne
              | tup _ => rw [hy] at h2; simp [avOk1] at h2
              | c u =>
                rw [hy] at hE
                exact .cons hE .nil
              | agg cs => rw [hy] at h3; simp [isC] at h3
            exact this.append rest
      have hcap := key xs.toList caps k2 c1 c2
      have hev : (xs.map a.eval).toList = xs.toList.map a.eval := by simp
      refine ⟨.func (.func f) #[] (xs.map a.eval), w, G.addCap f (xs.map a.eval) _, by simp [execOp, Instr.makeFunc], ⟨_, rfl, .inr (.inr ⟨rfl, rfl, rfl⟩)⟩, hi.addCap (by rw [hev]; exact hcap), G.le_addCap _ _ _, rfl, Same.refl w⟩
    · cases hk
  | mkbfn f caps =>
    cases hv
    simp only [opOk] at hk
    split at hk
    · rename_i g xs first
      simp only [Bool.and_eq_true, beq_iff_eq] at hk
      obtain ⟨⟨rfl, k1⟩, k2⟩ := hk
      have hf0 : first = #[] := by simpa using k1
      subst hf0
      obtain ⟨c1, c2⟩ := hc
      have key : ∀ (xs : List Operand) (ys : List Opd), opdsOk xs ys = true → (ys.map (·.ev env)).all avOk1 = true → (ys.map (·.ev env)).all isC = true →
          F2 (Rep G) ((ys.map (·.ev env)).flatMap AV.cells) (xs.map a.eval) := by
        intro xs
        induction xs with
        | nil =>
          intro ys h1 _ _
          cases ys with
          | nil => exact .nil
          | cons _ _ => simp [opdsOk] at h1
        | cons x xs ih =>
          intro ys h1 h2 h3
          cases ys with
          | nil => simp [opdsOk] at h1
          | cons y ys =>
            simp only [opdsOk, Bool.and_eq_true] at h1
            simp only [List.map_cons, List.all_cons, Bool.and_eq_true] at h2 h3
            have hr := opd_rep he h1.1
            obtain ⟨hE, hne⟩ := avOk1_E h2.1 hr
            have hcs := hE.cells hne
            have rest := ih ys h1.2 h2.2 h3.2
            simp only [List.map_cons, List.flatMap_cons]
            have : F2 (Rep G) (y.ev env).cells [a.eval x] := by
              cases hy : y.ev env with
              | any => exact absurd hy hne
              | tup _ => rw [hy] at h2; simp [avOk1] at h2
              | c u =>
                rw [hy] at hE
                exact .cons hE .nil
              | agg cs => rw [hy] at h3; simp [isC] at h3
            exact this.append rest
      have hcap := key xs.toList caps k2 c1 c2
      have hev : (xs.map a.eval).toList = xs.toList.map a.eval := by simp
      refine ⟨.func (.func f) (xs.map a.eval) #[], w, G.addCap f (xs.map a.eval) _, by simp [execOp, Instr.makeFunc], ⟨_, rfl, .inr ⟨rfl, rfl, rfl⟩⟩, hi.addCap (by rw [hev]; exact hcap), G.le_addCap _ _ _, rfl, Same.refl w⟩
    · cases hk
  | slE sz =>
    cases hv
    simp only [opOk] at hk
    split at hk
    · rename_i t m parts
      simp only [Bool.and_eq_true, beq_iff_eq] at hk
      obtain ⟨⟨rfl, k1⟩, k2⟩ := hk
      split at k2
      · rename_i e hg
        obtain ⟨ie, hie⟩ := Option.isSome_iff_exists.1 k2
        have hp : parts = #[] := by simpa using k1
        subst hp
        refine ⟨.slice (some ⟨w.heap.size, 0, none⟩) 0 0, _, G, ?_, .inr ⟨rfl, _, rfl⟩, hi.same (Same.alloc w (.cells #[] e)), .refl G, rfl, Same.alloc w _⟩
        have hu := run_underlying (w := w) (sliceElem_some hg)
        have h11 : (typeInfo e).run P w = .ok ie w := by simp [typeInfo, hie]
        have h12 : Array.map (fun _ => (default : Value)) (Array.range 0) = #[] := by simp
        simp [execOp, Instr.buildSlice, hu, sizeOf, h11, Instr.fill, newRow, h12]
      · cases k2
    · cases hk
  | sbytes x =>
    simp only [opOk] at hk
    split at hk
    · rename_i src dst' y
      simp only [Bool.and_eq_true] at hk
      obtain ⟨⟨k1, k2⟩, k3⟩ := hk
      split at k3
      · rename_i e hg
        simp only [fl] at hv
        split at hv <;> cases hv
        rename_i s hs
        have h1 := opd_cell he k1 hs
        simp only [Rep] at h1
        have hu1 := fun w : World => run_underlying (w := w) (isStr_some k2)
        have hu2 := fun w : World => run_underlying (w := w) (sliceElem_some hg)
        have hu3 := fun w : World => run_underlying (w := w) (isInt_some k3)
        obtain ⟨cap, C, w', hC, hcap, h2, h3, h4, h5⟩ := strBytes_run (P := P) (w := w) e s
        refine ⟨.slice (some ⟨w.heap.size, 0, none⟩) s.length cap, w', G.addRow w.heap.size 0 1 (bytesAC s), ?_, ?_, ?_, G.le_addRow _ _ _ _, rfl, h4⟩
        · simp only [execOp, convert, Sem.run_bind, hu1, hu2, Result.andThen_ok, h1]
          simp [hu3, h2]
        · refine .inl ⟨w.heap.size, 0, cap, by simp [bytesAC], by simpa [bytesAC] using hcap, addRow_row (fun e he => ?_)⟩
          simp only [bytesAC, List.mem_map] at he
          obtain ⟨b, _, rfl⟩ := he
          rfl
        · refine hi.newRow h4 h3 (Nat.le_refl _) (fun i e j x h6 h7 h8 => ?_)
          simp only [bytesAC, List.getElem?_map] at h6
          cases hsi : s[i]? with
          | none => rw [hsi] at h6; cases h6
          | some b =>
            rw [hsi] at h6; cases h6
            have : j = 0 := by omega
            subst this
            simp at h7; subst h7
            exact ⟨_, by simpa using hC i b hsi, rfl⟩
      · cases k3
    · cases hk
  | _ => cases ha

end
end Go.Ab
