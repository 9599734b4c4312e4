/- Append. -/
import Derived.Test.YtdbaldohbjnlpaaGreatAb8
set_option linter.unusedVariables false
set_option linter.unusedSimpArgs false
namespace Go.Ab
section
variable {P : Program} {G : Ghost} {h : Heap} {w : World} {nt : Nat} {env : Env} {a : Act} {n : Nat}

theorem flatten_get {sz : Nat} : ∀ {es : List (List AC)}, (∀ e ∈ es, e.length = sz) → ∀ {j : Nat} {x : AC}, es.flatten[j]? = some x → ∃ (i : Nat) (e : List AC) (q : Nat), es[i]? = some e ∧ e[q]? = some x ∧ q < sz ∧ j = i * sz + q
  | [], _, j, x, h => by simp at h
  | e :: es, hs, j, x, h => by
    rw [List.flatten_cons] at h
    have he := hs e List.mem_cons_self
    by_cases hj : j < sz
    · rw [List.getElem?_append_left (by omega)] at h
      exact ⟨0, e, j, rfl, h, hj, by simp⟩
    · rw [List.getElem?_append_right (by omega)] at h
      obtain ⟨i, e', q, h1, h2, h3, h4⟩ := flatten_get (fun e he => hs e (List.mem_cons_of_mem _ he)) h
      exact ⟨i + 1, e', q, by simpa using h1, h2, h3, by rw [Nat.succ_mul]; omega⟩

theorem flatten_length {sz : Nat} : ∀ {es : List (List AC)}, (∀ e ∈ es, e.length = sz) → es.flatten.length = es.length * sz
  | [], _ => by simp
  | e :: es, hs => by
    rw [List.flatten_cons, List.length_append, flatten_length (fun e he => hs e (List.mem_cons_of_mem _ he)), hs e List.mem_cons_self, List.length_cons, Nat.succ_mul]; omega

theorem flatten_at {sz : Nat} : ∀ {es : List (List AC)}, (∀ e ∈ es, e.length = sz) → ∀ {i : Nat} {e : List AC} {q : Nat} {x : AC}, es[i]? = some e → e[q]? = some x → es.flatten[i * sz + q]? = some x
  | [], _, i, e, q, x, h, _ => by simp at h
  | e0 :: es, hs, i, e, q, x, h, hx => by
    have he := hs e0 List.mem_cons_self
    rw [List.flatten_cons]
    cases i with
    | zero =>
      simp at h; subst h
      have := (List.getElem?_eq_some_iff.1 hx).1
      rw [List.getElem?_append_left (by omega)]
      simpa using hx
    | succ i =>
      simp at h
      rw [Nat.succ_mul, List.getElem?_append_right (by omega)]
      have := flatten_at (fun e he => hs e (List.mem_cons_of_mem _ he)) h hx
      rw [← this]
      congr 1
      omega

theorem sealed_all {b o sz : Nat} {es : List (List AC)} (h : SealRow G b o sz es) : ∀ e ∈ es, e.length = sz := fun e he => by
  obtain ⟨i, hi⟩ := List.mem_iff_getElem?.1 he
  exact (h i e hi).1

/-- The first cells of what is appended, or copied, or was there. -/
theorem firsts_run (hi : Inv G h w) {x : AC} {vx : Value} (hx : Rep G x vx) {p : Prop} {ys : List (List AC)} {sz : Nat} (hv : viewV sz h x = some (p, ys)) (hp : p) {m : Nat} (hm : m ≤ ys.length) :
    (Builtin.lenOf vx).run P w = .ok ys.length w ∧ ∃ cells : Array Value, (∀ d, (Builtin.firstCells sz m vx).run P { w with drawn := d } = .ok cells { w with drawn := d }) ∧ F2 (Rep G) (ys.take m).flatten cells.toList ∧ (∀ e ∈ ys, e.length = sz) := by
  by_cases hs : ∃ s, x = .str s
  · obtain ⟨s, rfl⟩ := hs
    cases hv
    subst hp
    simp only [Rep] at hx
    subst hx
    refine ⟨by simp [Builtin.lenOf, str_size, bytesAC], ⟨((s.take m).map fun b => Value.int .u8 b.toNat).toArray, fun d => ?_, ?_, ?_⟩⟩
    · simp [Builtin.firstCells, ByteArray.extract_mk, List.extract_eq_take_drop]
    · simp only [bytesAC]
      clear hi hm
      rw [← List.map_take]
      generalize s.take m = s
      induction s with
      | nil => simpa using F2.nil
      | cons b s ih => simpa using F2.cons (R := Rep G) (a := AC.int .u8 b.toNat) (b := Value.int .u8 b.toNat) rfl (by simpa using ih)
    · intro e he
      simp only [bytesAC, List.mem_map] at he
      obtain ⟨b, _, rfl⟩ := he
      rfl
  · obtain ⟨ad, cap, rfl, hcap, hall, hrow⟩ := viewV_rep hi hx (fun s e => hs ⟨s, e⟩) hv hp
    refine ⟨by simp [Builtin.lenOf], ?_⟩
    rcases hrow with rfl | ⟨b, o, rfl, hrow⟩
    · have hm0 : m = 0 := by simpa using hm
      subst hm0
      refine ⟨#[], fun d => ?_, by simpa using F2.nil, by simp⟩
      cases ad <;> simp [Builtin.firstCells, loadCells, loadCellsFrom]
    · have hall' : ∀ e ∈ ys.take m, e.length = sz := fun e he => hall e (List.mem_of_mem_take he)
      obtain ⟨vs, h1, h2⟩ := told (G := G) (w := w) (b := b) (o := o) (cs := (ys.take m).flatten) (fun j x hj => by
        obtain ⟨i, e, q, h3, h4, h5, rfl⟩ := flatten_get hall' hj
        have h3' : ys[i]? = some e := by
          rw [List.getElem?_take] at h3
          split at h3
          · exact h3
          · cases h3
        have := hrow i e q x h3' h4
        rwa [Nat.add_assoc] at this)
      have hl : vs.length = m * sz := by rw [← F2.length h1, flatten_length hall', List.length_take, Nat.min_eq_left hm]
      refine ⟨vs.toArray, fun d => ?_, by simpa using h1, hall⟩
      have := loadCells_run (P := P) (w := { w with drawn := d }) (cs := vs) h2
      rw [hl] at this
      simpa [Builtin.firstCells] using this

/-- The cells of what is appended, or was there. -/
theorem first_run (hi : Inv G h w) {x : AC} {vx : Value} (hx : Rep G x vx) {p : Prop} {ys : List (List AC)} {sz : Nat} (hv : viewV sz h x = some (p, ys)) (hp : p) :
    (Builtin.lenOf vx).run P w = .ok ys.length w ∧ ∃ cells : Array Value, (∀ d, (Builtin.firstCells sz ys.length vx).run P { w with drawn := d } = .ok cells { w with drawn := d }) ∧ F2 (Rep G) ys.flatten cells.toList ∧ (∀ e ∈ ys, e.length = sz) := by
  have := firsts_run (P := P) hi hx hv hp (Nat.le_refl _)
  rwa [List.take_length] at this

theorem growBy_le {newLen : Nat} (h : 256 ≤ newLen) : ∀ (r c : Nat), c ≤ 2 * newLen → Builtin.growBy newLen r c ≤ 2 * newLen
  | 0, c, hc => hc
  | r + 1, c, hc => by
    unfold Builtin.growBy
    split
    · exact hc
    · exact growBy_le h r _ (by omega)
theorem nextcap_le {newLen oldCap : Nat} (h : oldCap < newLen) : Builtin.nextslicecap newLen oldCap ≤ 2 * newLen := by
  unfold Builtin.nextslicecap
  split
  · omega
  · split
    · omega
    · exact growBy_le (by omega) 4 oldCap (by omega)

theorem zeroCells_size (z : Array Value) (k : Nat) : (Builtin.zeroCells z k).size = k * z.size := by simp [Builtin.zeroCells]

theorem noInt_run {u : TypeId} (hu : noInt P u = true) (w : World) : ∃ d, (underlying u).run P w = .ok d w ∧ (match d with | .int _ => true | _ => false) = false := by
  unfold noInt at hu
  split at hu
  · cases hu
  · rename_i d hn hd
    refine ⟨d, run_underlying hd w, ?_⟩
    split
    · rename_i k; exact absurd rfl (hn k)
    · rfl
  · cases hu

/-- An append that moves nothing, or has room. -/
theorem append_room {t e u ty : TypeId} {sz bytes : Nat} (ht : P.underlying t = some (.slice e)) (hs : szOk P sz e = true) (hu : noInt P u = true) {base : Option Addr} {len cap : Nat} {vx : Value} {k : Nat}
    (hl : (Builtin.lenOf vx).run P w = .ok k w) {cells : Array Value} (hc : (Builtin.firstCells sz k vx).run P w = .ok cells w) (hk : len + k ≤ cap) {w' : World}
    (hst : (match base with | some ad => storeCells (ad.add (len * sz)) cells.toList | none => pure ()).run P w = .ok () w') :
    (Builtin.append_ #[t, u] ty #[.slice base len cap, vx]).run P w = .ok (.slice base (len + k) cap) w' := by
  obtain ⟨d, h1, h2⟩ := noInt_run (P := P) hu w
  have h3 := sizeOf_run (w := w) hs
  unfold Builtin.append_
  simp only [List.getElem?_toArray, List.getElem?_cons_zero, List.getElem?_cons_succ, Sem.run_bind, run_underlying ht, Result.andThen_ok, h3, h1, Sem.run_pure]
  cases base with
  | none =>
    have hw : w' = w := by
      simp only [Sem.run_pure, Result.ok.injEq, true_and] at hst
      exact hst.symm
    subst hw
    cases d <;> simp at h2 <;> simp [hl, hk, hc]
  | some ad =>
    simp only at hst
    cases d <;> simp at h2 <;> simp [hl, hk, hc, hst]

/-- An append that moves. -/
theorem append_grow {t e u ty : TypeId} {sz bytes : Nat} (ht : P.underlying t = some (.slice e)) (hs : szOk P sz e = true) (hb : byOk P bytes e = true) (hb0 : 0 < bytes) (hu : noInt P u = true) {z : List Value} (hz : elemZero P e sz = some z)
    {base : Option Addr} {len cap : Nat} {vx : Value} {k : Nat} (hl : (Builtin.lenOf vx).run P w = .ok k w) {old new : Array Value} (hc : ∀ d, (Builtin.firstCells sz k vx).run P { w with drawn := d } = .ok new { w with drawn := d })
    (ho : ∀ d, (Builtin.firstCells sz len (.slice base len cap)).run P { w with drawn := d } = .ok old { w with drawn := d }) (hk : cap < len + k) (hroom : (len + k) * bytes ≤ 2 ^ 47) :
    ∃ (cap' : Nat) (rest : Array Value), len + k ≤ cap' ∧ rest.size = (cap' - (len + k)) * sz ∧
      (Builtin.append_ #[t, u] ty #[.slice base len cap, vx]).run P w = .ok (.slice (some ⟨w.heap.size, 0, none⟩) (len + k) cap') { w with drawn := w.drawn + 1, heap := w.heap.push (.cells (old ++ new ++ rest) e) } := by
  obtain ⟨d, h1, h2⟩ := noInt_run (P := P) hu w
  have h3 := sizeOf_run (w := w) hs
  obtain ⟨i, zv, h4, h5, h6, h7, h8⟩ := elemZero_some hz
  have h9 : i.bytes = bytes := by simpa [byOk, h4] using hb
  have h10 : ¬ Builtin.nextslicecap (len + k) cap * bytes > 2 ^ 48 := by
    have := Nat.mul_le_mul_right bytes (nextcap_le hk)
    rw [Nat.mul_assoc] at this
    omega
  have h11 : ¬ (((len + k : Nat) : Int) > IntKind.i64.max ∧ (False ∨ bytes = 0)) := by
    rintro ⟨_, h | h⟩
    · exact h
    · omega
  have hcut : ∀ t, (Question.appendCap (len + k) cap e).cut t = len + k + t % (2 ^ 63 - (len + k)) := fun t => rfl
  have hq : (Question.appendCap (len + k) cap e).forced = false := rfl
  refine ⟨len + k + w.tape w.drawn (.appendCap (len + k) cap e) % (2 ^ 63 - (len + k)), Builtin.zeroCells zv.cells _, by omega, by rw [zeroCells_size, h6], ?_⟩
  have hti : ∀ w : World, (typeInfo e).run P w = .ok i w := fun w => by simp [typeInfo, h4]
  have hze : ∀ w : World, (zeroValue e).run P w = .ok zv w := fun w => by simp [zeroValue, typeInfo, h4, h5]
  have hcap : ¬ len + k ≤ cap := by omega
  unfold Builtin.append_
  simp only [List.getElem?_toArray, List.getElem?_cons_zero, List.getElem?_cons_succ, Sem.run_bind, run_underlying ht, Result.andThen_ok, h3, h1, Sem.run_pure]
  cases d <;> (try (simp at h2; done)) <;>
    simp only [Bool.false_eq_true, if_false, hl, Result.andThen_ok, hcap, h11, hti, h9, h10, Sem.run_bind, Sem.run_ite, run_choose, hq, hcut, run_askRoom, ho, hc, hze, newRow, run_newObj, Sem.run_pure, Bool.not_false, if_true, Sem.run_pure'] <;> rfl


theorem del_none (h : Heap) (i : Nat) : h.del i i = none := by simp [Heap.del]
theorem del_ne {h : Heap} {i j : Nat} (hn : j ≠ i) : h.del i j = h j := by simp [Heap.del, hn]
theorem sub_del (h : Heap) (i : Nat) : Sub (h.del i) h := fun j ob e => by
  by_cases hj : j = i
  · subst hj; rw [del_none] at e; cases e
  · rwa [del_ne hj] at e
theorem sub_delCp (h : Heap) (c : Cp) : Sub (delCp h c) h := by
  cases c with
  | tok i => exact sub_del h i
  | _ => exact fun _ _ e => e

/-- The cells of rows, one behind the other. -/
theorem rows_cells {es : List (List AC)} {sz : Nat} (hs : ∀ e ∈ es, e.length = sz) {vs : List Value} (hr : F2 (Rep G) es.flatten vs) {i : Nat} {e : List AC} {j : Nat} {x : AC} (he : es[i]? = some e) (hx : e[j]? = some x) :
    ∃ v, vs[i * sz + j]? = some v ∧ Rep G x v := told_get hr (flatten_at hs he hx)

/-- The grown row. -/
theorem grow_state (hi : Inv G h w) (hf : Fresh G h n) {c : Cp} {old new rest : Array Value} {e : TypeId} {es ys : List (List AC)} {sz cap : Nat} (hs : 0 < sz) (h1 : ∀ e ∈ es, e.length = sz) (h2 : ∀ e ∈ ys, e.length = sz)
    (ho : F2 (Rep G) es.flatten old.toList) (hn : F2 (Rep G) ys.flatten new.toList) (hcap : es.length + ys.length ≤ cap) (hr : rest.size = (cap - (es.length + ys.length)) * sz) {w' : World} (hw : Same w w')
    (hb : w'.heap[w.heap.size]? = some (.cells (old ++ new ++ rest) e (0, 0))) :
    ∃ G', Rep G' (.sl sz (es ++ ys) (.tok n)) (.slice (some ⟨w.heap.size, 0, none⟩) (es.length + ys.length) cap) ∧ Inv G' ((delCp h c).upd n .spare) w' ∧ Ext G h n w G' ((delCp h c).upd n .spare) (n + 1) w' := by
  have hall : ∀ e ∈ es ++ ys, e.length = sz := fun e he => by
    rcases List.mem_append.1 he with he | he
    · exact h1 e he
    · exact h2 e he
  have hfl : F2 (Rep G) (es ++ ys).flatten (old ++ new ++ rest).toList ∨ True := .inr trivial
  have htold : F2 (Rep G) (es ++ ys).flatten (old.toList ++ new.toList) := by rw [List.flatten_append]; exact ho.append hn
  have i1 : Inv G (delCp h c) w := hi.sub (sub_delCp h c)
  have i2 := i1.newRow (sz := sz) (es := es ++ ys) hw hb (Nat.le_refl _) (fun i e j x he hx hj => by
    obtain ⟨v, h3, h4⟩ := rows_cells hall htold he hx
    refine ⟨v, ?_, h4⟩
    have hlt := (List.getElem?_eq_some_iff.1 h3).1
    have : (old ++ new ++ rest).toList[i * sz + j]? = some v := by
      rw [Array.toList_append, Array.toList_append, List.getElem?_append_left hlt]; exact h3
    rw [← Array.getElem?_toList]
    exact this)
  have hsz : (old ++ new ++ rest).size = cap * sz := by
    have e1 := F2.length ho
    have e2 := F2.length hn
    rw [flatten_length h1] at e1
    rw [flatten_length h2] at e2
    simp at e1 e2
    simp only [Array.size_append, hr, ← e1, ← e2]
    rw [← Nat.add_mul, ← Nat.add_mul]
    congr 1
    omega
  have hfn : (delCp h c) n = none := (sub_delCp h c).none (hf n (Nat.le_refl _)).1
  have i3 := i2.addObj (n := n) (pl := ⟨w.heap.size, sz, es.length + ys.length, cap⟩) (ob := .spare) hfn (hf n (Nat.le_refl _)).2 (fun hl => by
      have : Live G (delCp h c) w.heap.size := hl
      exact not_live_new i1 this)
    ⟨_, _, _, hb, Nat.le_of_eq hsz.symm, fun o _ => by simp⟩ (fun o x hx => ⟨rfl, by
      rcases hx with hx | ⟨_, i, e', j, h3, h4, h5, h6, rfl⟩
      · obtain ⟨v, h7, _⟩ := i1.fx _ _ _ hx
        have := cell_lt h7
        simp at this
      · simp only [List.length_append] at h6
        have : i * sz + sz ≤ (es.length + ys.length) * sz := by rw [← Nat.succ_mul]; exact Nat.mul_le_mul_right _ h6
        show 0 + i * sz + j < (es.length + ys.length) * sz
        omega⟩)
  refine ⟨_, ⟨⟨w.heap.size, sz, es.length + ys.length, cap⟩, by simp [Ghost.addObj], by simp, hcap, rfl, rfl, ?_⟩, i3, ?_⟩
  · exact SealRow.mono (Ghost.le_addObj (G := G.addRow w.heap.size 0 sz (es ++ ys)) _ (hf n (Nat.le_refl _)).2) (addRow_row hall)
  · have hf' : Fresh G (delCp h c) n := fun id hid => ⟨(sub_delCp h c).none (hf id hid).1, (hf id hid).2⟩
    have := Ext.newObj (G.le_addRow w.heap.size 0 sz (es ++ ys)) rfl hw hf' (pl := ⟨w.heap.size, sz, es.length + ys.length, cap⟩) (Nat.le_refl _) .spare
    exact ⟨this.le, this.os, this.tape, this.output, this.size, fun b hb hl => this.keep b hb (fun hl' => hl (hl'.sub (sub_delCp h c))), fun b hl => by
      rcases this.live b hl with hb' | hb'
      · exact .inl hb'
      · exact .inr (hb'.sub (sub_delCp h c)), this.next, this.fresh⟩


/-- A row that had room. -/
theorem room_state (hi : Inv G h w) (hf : Fresh G h n) {id : Nat} {pl : Place} (hp : G.obj id = some pl) (hid : h id = some .spare) {new : Array Value} {es ys : List (List AC)} (h1 : ∀ e ∈ es, e.length = pl.sz) (h2 : ∀ e ∈ ys, e.length = pl.sz)
    (hrow : SealRow G pl.blk 0 pl.sz es) (hlen : es.length = pl.len) (hn : F2 (Rep G) ys.flatten new.toList) (hcap : es.length + ys.length ≤ pl.cap) :
    ∃ G' w', (storeCells ⟨pl.blk, es.length * pl.sz, none⟩ new.toList).run P w = .ok () w' ∧ Rep G' (.sl pl.sz (es ++ ys) (.tok n)) (.slice (some ⟨pl.blk, 0, none⟩) (es.length + ys.length) pl.cap) ∧
      Inv G' ((delCp h (.tok id)).upd n .spare) w' ∧ Ext G h n w G' ((delCp h (.tok id)).upd n .spare) (n + 1) w' := by
  have hall : ∀ e ∈ es ++ ys, e.length = pl.sz := fun e he => by
    rcases List.mem_append.1 he with he | he
    · exact h1 e he
    · exact h2 e he
  obtain ⟨pl', h3, cs, el, fr, h4, h5, h6⟩ := hi.obj id _ hid
  rw [hp] at h3; cases h3
  have hnl : new.toList.length = ys.length * pl.sz := by rw [← F2.length hn, flatten_length h2]
  have hsum : es.length * pl.sz + ys.length * pl.sz ≤ pl.cap * pl.sz := by rw [← Nat.add_mul]; exact Nat.mul_le_mul_right _ hcap
  obtain ⟨cur', w', h8, h9, h10, h11⟩ := storeCells_run (P := P) pl.blk (es.length * pl.sz) el fr new.toList 0 cs w h4 (by omega) (cells_one hn) (fun k hk => h6 _ (by omega))
  have hlive : Live G h pl.blk := ⟨id, pl, by rw [hid]; simp, hp, rfl⟩
  have hnl1 : ¬ Live G (h.del id) pl.blk := by
    rintro ⟨i, p, k1, k2, k3⟩
    by_cases hii : i = id
    · subst hii; exact k1 (del_none _ _)
    · rw [del_ne hii] at k1
      exact hii (hi.excl i id p pl k1 (by rw [hid]; simp) k2 hp k3)
  have hfxlt : ∀ o x, G.fx pl.blk o x → o < es.length * pl.sz := fun o x hx => by
    rw [hlen]; exact (hi.exclS id pl o x (by rw [hid]; simp) hp hx).2
  have hcell : ∀ o, o < es.length * pl.sz → w'.cell? ⟨pl.blk, o, none⟩ = w.cell? ⟨pl.blk, o, none⟩ := fun o ho => by
    simp only [World.cell?, h9, h4]
    have := congrArg (fun l : List Value => l[o]?) h10
    simp only [Nat.add_zero] at this
    rw [List.append_assoc, List.getElem?_append_left (by simp; omega), List.getElem?_take_of_lt ho] at this
    simpa using this
  have i1 : Inv G (h.del id) w' := by
    have i0 := hi.sub (sub_del h id)
    refine ⟨fun b o x hx => ?_, i0.cap, fun i ob e => ?_, i0.excl, i0.exclS⟩
    · obtain ⟨v, k1, k2⟩ := i0.fx b o x hx
      refine ⟨v, ?_, k2⟩
      by_cases hb : b = pl.blk
      · subst hb; rw [hcell o (hfxlt o x hx)]; exact k1
      · exact (cell_same (h11.block b hb) o).trans k1
    · obtain ⟨p, k1, k2⟩ := i0.obj i ob e
      exact ⟨p, k1, k2.of_block (.refl G) (h11.block _ (fun k3 => hnl1 ⟨i, p, by rw [e]; simp, k1, k3⟩))⟩
  have hnew : ∀ (i : Nat) (e : List AC) (j : Nat) (x : AC), ys[i]? = some e → e[j]? = some x → j < pl.sz → ∃ v, w'.cell? ⟨pl.blk, es.length * pl.sz + i * pl.sz + j, none⟩ = some v ∧ Rep G x v := fun i e j x he hx hj => by
    obtain ⟨v, k1, k2⟩ := rows_cells h2 hn he hx
    refine ⟨v, ?_, k2⟩
    simp only [World.cell?, h9, Option.isSome_none, Bool.false_eq_true, if_false]
    have := congrArg (fun l : List Value => l[es.length * pl.sz + i * pl.sz + j]?) h10
    have hlt := (List.getElem?_eq_some_iff.1 k1).1
    simp only [Nat.add_zero] at this
    have hcs : es.length * pl.sz ≤ cs.toList.length := by simp; omega
    have hmin : min (es.length * pl.sz) cs.toList.length = es.length * pl.sz := by omega
    rw [List.append_assoc, List.getElem?_append_right (by rw [List.length_take, hmin]; omega), List.getElem?_append_left (by rw [List.length_take, hmin]; omega), List.length_take, hmin,
      show es.length * pl.sz + i * pl.sz + j - es.length * pl.sz = i * pl.sz + j from by omega, k1] at this
    simpa using this
  have i2 := i1.addRow (base := es.length * pl.sz) (sz := pl.sz) (es := ys) hnl1 hnew
  have hfn : (h.del id) n = none := (sub_del h id).none (hf n (Nat.le_refl _)).1
  have hgn : (G.addRow pl.blk (es.length * pl.sz) pl.sz ys).obj n = none := (hf n (Nat.le_refl _)).2
  have i3 := i2.addObj (n := n) (pl := ⟨pl.blk, pl.sz, es.length + ys.length, pl.cap⟩) (ob := .spare) hfn hgn hnl1
    ⟨cur', el, fr, h9, by
      have : cur'.toList.length = cs.toList.length := by rw [h10]; simp only [List.length_append, List.length_take, List.length_drop, Array.length_toList] at hnl ⊢; omega
      simp at this
      show pl.cap * pl.sz ≤ cur'.size
      omega, h6⟩ (fun o x hx => ⟨rfl, by
      show o < (es.length + ys.length) * pl.sz
      rw [Nat.add_mul]
      rcases hx with hx | ⟨_, i, e', j, k3, k4, k5, k6, rfl⟩
      · have := hfxlt o x hx; omega
      · have : i * pl.sz + pl.sz ≤ ys.length * pl.sz := by rw [← Nat.succ_mul]; exact Nat.mul_le_mul_right _ k6
        omega⟩)
  refine ⟨_, w', h8, ⟨⟨pl.blk, pl.sz, es.length + ys.length, pl.cap⟩, by simp [Ghost.addObj], by simp, hcap, rfl, rfl, ?_⟩, i3, ?_⟩
  · refine SealRow.mono (Ghost.le_addObj (G := G.addRow pl.blk (es.length * pl.sz) pl.sz ys) _ hgn) ?_
    intro i e he
    refine ⟨hall e (List.mem_of_getElem? he), fun j x hx => ?_⟩
    by_cases hi' : i < es.length
    · rw [List.getElem?_append_left hi'] at he
      exact .inl ((hrow i e he).2 j x hx)
    · rw [List.getElem?_append_right (by omega)] at he
      refine .inr ⟨rfl, i - es.length, e, j, he, hx, ?_, (List.getElem?_eq_some_iff.1 he).1, ?_⟩
      · rw [← h2 e (List.mem_of_getElem? he)]; exact (List.getElem?_eq_some_iff.1 hx).1
      · rw [Nat.zero_add, ← Nat.add_mul]; congr 2; omega
  · refine ⟨(G.le_addRow _ _ _ _).trans (Ghost.le_addObj _ hgn), h11.os, h11.tape, h11.output, Nat.le_of_eq h11.size.symm, fun b hb hl => h11.block b (fun e => hl (e ▸ hlive)), fun b hl => ?_, by omega, ?_⟩
    · rcases hl.addObj with rfl | hl
      · exact .inr hlive
      · exact .inr (Live.sub (sub_del h id) hl)
    · have hf' : Fresh (G.addRow pl.blk (es.length * pl.sz) pl.sz ys) (h.del id) n := fun i hid => ⟨(sub_del h id).none (hf i hid).1, (hf i hid).2⟩
      exact hf'.upd _ _

theorem app_run (hi : Inv G h w) (hf : Fresh G h n) {t e u ty : TypeId} {sz bytes : Nat} (ht : P.underlying t = some (.slice e)) (hs : szOk P sz e = true) (hb : byOk P bytes e = true) (hb0 : 0 < bytes) (hs0 : 0 < sz) (hu : noInt P u = true)
    {z : List Value} (hz : elemZero P e sz = some z) {es ys : List (List AC)} {c : Cp} {x : AC} {p : Prop} {vs vx : Value} (hS : Rep G (.sl sz es c) vs) (hX : Rep G x vx) (he : viewV sz h x = some (p, ys)) (hsz : p)
    (hc : ys.isEmpty = true ∨ (cpOk h c ∧ (es.length + ys.length) * bytes ≤ 2 ^ 47)) :
    ∃ cv w' G', (Builtin.append_ #[t, u] ty #[vs, vx]).run P w = .ok cv w' ∧ Rep G' (.sl sz (es ++ ys) (bif ys.isEmpty then c else .tok n)) cv ∧
      Inv G' (bif ys.isEmpty then h else (delCp h c).upd n .spare) w' ∧ Ext G h n w G' (bif ys.isEmpty then h else (delCp h c).upd n .spare) (bif ys.isEmpty then n else n + 1) w' := by
  obtain ⟨f1, new, f2, f3, f4⟩ := first_run (P := P) hi hX he hsz
  obtain ⟨ad, cap, hve, hcap, hrow⟩ := sl_cases hS
  cases hys : ys.isEmpty with
  | true =>
    have : ys = [] := by simpa using hys
    subst this
    have hn : new.toList = [] := by
      have := F2.length f3
      simpa using this.symm
    refine ⟨vs, w, G, ?_, by simpa using hS, hi, Ext.refl w hf⟩
    rw [hve]
    have := append_room (P := P) (w := w) (bytes := bytes) (ty := ty) (base := ad) (len := es.length) (cap := cap) ht hs hu f1 (f2 w.drawn) (by simpa using hcap) (w' := w) (by rw [hn]; cases ad <;> simp [storeCells])
    simpa using this
  | false =>
    rw [hys] at hc
    simp only [Bool.false_eq_true, false_or] at hc
    obtain ⟨hc1, hc2⟩ := hc
    have hpos : 0 < ys.length := by
      cases ys with
      | nil => simp at hys
      | cons _ _ => simp
    simp only [cond_false]
    -- it moves, or it has room
    have grow : cap < es.length + ys.length → ∃ cv w' G', (Builtin.append_ #[t, u] ty #[vs, vx]).run P w = .ok cv w' ∧ Rep G' (.sl sz (es ++ ys) (.tok n)) cv ∧
        Inv G' ((delCp h c).upd n .spare) w' ∧ Ext G h n w G' ((delCp h c).upd n .spare) (n + 1) w' := fun hg => by
      obtain ⟨o1, old, o2, o3, o4⟩ := first_run (P := P) hi (x := .sl sz es c) hS rfl (sz := sz) rfl
      rw [hve] at o2 ⊢
      obtain ⟨cap', rest, g1, g2, g3⟩ := append_grow (P := P) (w := w) (ty := ty) ht hs hb hb0 hu hz f1 f2 o2 hg hc2
      obtain ⟨G', g4, g5, g6⟩ := grow_state (G := G) hi hf (c := c) (e := e) hs0 o4 f4 o3 f3 g1 g2 (w' := { w with drawn := w.drawn + 1, heap := w.heap.push (.cells (old ++ new ++ rest) e) })
        ((Same.drew w).trans (Same.alloc _ _)) (by simp)
      exact ⟨_, _, G', g3, g4, g5, g6⟩
    cases c with
    | none => exact hc1.elim
    | nil =>
      obtain ⟨rfl, rfl⟩ := hS
      cases hve
      exact grow (by simp at hpos ⊢; omega)
    | full =>
      rcases hS with ⟨b, o, rfl, _⟩ | ⟨rfl, b, rfl⟩
      · cases hve; exact grow (by omega)
      · cases hve; exact grow (by simp; omega)
    | tok id =>
      rcases Nat.lt_or_ge cap (es.length + ys.length) with hg | hg
      · exact grow hg
      · obtain ⟨pl, p1, p2, p3, rfl, p5, p6⟩ := hS
        rw [p5] at hve
        rw [p2] at hve
        cases hve
        obtain ⟨G', w', r1, r2, r3, r4⟩ := room_state (P := P) hi hf p1 hc1 (sealed_all p6) f4 p6 p2 f3 hg
        refine ⟨_, w', G', ?_, r2, r3, r4⟩
        rw [p5, ← p2]
        exact append_room (P := P) (w := w) (bytes := bytes) ht hs hu f1 (f2 w.drawn) hg (by simpa [add_off] using r1)

end
end Go.Ab
