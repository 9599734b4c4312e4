/- Rows that may still be written: made, appended to, shut. -/
import Derived.Test.YtdbaldohbjnlpaaGreatAb9
import Derived.Laws.MakeOwn
set_option linter.unusedVariables false
set_option linter.unusedSimpArgs false
namespace Go.Ab
section
variable {P : Program} {G : Ghost} {h : Heap} {w : World} {nt : Nat} {env : Env} {a : Act} {n : Nat}

/-- A row that may be written is shut: it never will be again. -/
theorem shut_state (hi : Inv G h w) (hf : Fresh G h n) {id : Nat} {es : List (List AC)} (hid : h id = some (.row es)) {sz : Nat} (hne : es ≠ []) (hs : ∀ e ∈ es, e.length = sz) {v : Value} (hv : Rep G (.msl id) v) :
    ∃ G', Rep G' (.sl sz es (.tok id)) v ∧ Inv G' (h.upd id .spare) w ∧ Ext G h n w G' (h.upd id .spare) n w := by
  obtain ⟨pl, hp, rfl⟩ := hv
  obtain ⟨pl', h3, h1, h2, cs, el, fr, h4, h5, h6, h7⟩ := hi.obj id _ hid
  rw [hp] at h3; cases h3
  have hsz : pl.sz = sz := by
    cases es with
    | nil => exact absurd rfl hne
    | cons e r => have := (h7 0 e rfl).1; rw [← this]; exact hs e List.mem_cons_self
  subst hsz
  have hG := G.le_addRow pl.blk 0 pl.sz es
  have nofx : ∀ o x, ¬ G.fx pl.blk o x := by
    intro o x hx
    have := (hi.exclS id pl o x (by rw [hid]; simp) hp hx).1
    rw [hid] at this; cases this
  have hne' : ∀ i, h.upd id .spare i ≠ none → h i ≠ none := by
    intro i hi'
    by_cases e : i = id
    · subst e; rw [hid]; simp
    · rwa [upd_ne e] at hi'
  refine ⟨G.addRow pl.blk 0 pl.sz es, ⟨pl, hp, h1, h2, rfl, rfl, addRow_row hs⟩, ⟨fun b o x hx => ?_, fun f vs cs hx => F2.imp (fun _ _ => Rep.mono hG) (hi.cap f vs cs hx), fun i ob e => ?_,
    fun i i' p1 p2 g1 g2 g3 g4 g5 => hi.excl i i' p1 p2 (hne' i g1) (hne' i' g2) g3 g4 g5, fun i p1 o x g1 g2 g3 => ?_⟩, ?_⟩
  · rcases hx with hx | ⟨rfl, i, e, j, g1, g2, g3, g4, rfl⟩
    · obtain ⟨v, g1, g2⟩ := hi.fx _ _ _ hx; exact ⟨v, g1, g2.mono hG⟩
    · obtain ⟨v, g5, g6⟩ := (h7 i e g1).2 j x g2
      exact ⟨v, by simp only [World.cell?, h4, Nat.zero_add]; simpa using g5, g6.mono hG⟩
  · by_cases hii : i = id
    · subst hii
      rw [upd_self] at e; cases e
      exact ⟨pl, hp, cs, el, fr, h4, h5, h6⟩
    · rw [upd_ne hii] at e
      obtain ⟨p1, g1, g2⟩ := hi.obj i ob e
      exact ⟨p1, g1, g2.of_block hG rfl⟩
  · by_cases hii : i = id
    · subst hii
      rw [upd_self]
      have g2' : G.obj i = some p1 := g2
      rw [hp] at g2'; cases g2'
      rcases g3 with g3 | ⟨_, k, e, j, k1, k2, k3, k4, rfl⟩
      · exact absurd g3 (nofx o x)
      · refine ⟨rfl, ?_⟩
        rw [← h1]
        have : k * pl.sz + pl.sz ≤ es.length * pl.sz := by rw [← Nat.succ_mul]; exact Nat.mul_le_mul_right _ k4
        omega
    · rw [upd_ne hii] at g1 ⊢
      rcases g3 with g3 | ⟨k0, _⟩
      · exact hi.exclS i p1 o x g1 g2 g3
      · exact absurd (hi.excl i id p1 pl g1 (by rw [hid]; simp) g2 hp k0) hii
  · refine ⟨hG, rfl, rfl, rfl, Nat.le_refl _, fun _ _ _ => rfl, fun b hb => .inr ?_, Nat.le_refl _, fun i hi' => ⟨?_, (hf i hi').2⟩⟩
    · obtain ⟨i, p, g1, g2, g3⟩ := hb
      exact ⟨i, p, hne' i g1, g2, g3⟩
    · have : i ≠ id := fun e => by have := (hf i hi').1; rw [e, hid] at this; cases this
      rw [upd_ne this]; exact (hf i hi').1

/-- The grown row, which may be written. -/
theorem grow_stateM (hi : Inv G h w) (hf : Fresh G h n) {h' : Heap} (hsub : Sub h' h) {old new rest : Array Value} {e : TypeId} {es ys : List (List AC)} {sz cap : Nat} (h1 : ∀ e ∈ es, e.length = sz) (h2 : ∀ e ∈ ys, e.length = sz)
    (ho : F2 (Rep G) es.flatten old.toList) (hn : F2 (Rep G) ys.flatten new.toList) (hcap : es.length + ys.length ≤ cap) (hr : rest.size = (cap - (es.length + ys.length)) * sz) {w' : World} (hw : Same w w')
    (hb : w'.heap[w.heap.size]? = some (.cells (old ++ new ++ rest) e (0, 0))) :
    ∃ G', Rep G' (.msl n) (.slice (some ⟨w.heap.size, 0, none⟩) (es.length + ys.length) cap) ∧ Inv G' (h'.upd n (.row (es ++ ys))) w' ∧ Ext G h n w G' (h'.upd n (.row (es ++ ys))) (n + 1) w' := by
  have hall : ∀ e ∈ es ++ ys, e.length = sz := fun e he => by
    rcases List.mem_append.1 he with he | he
    · exact h1 e he
    · exact h2 e he
  have htold : F2 (Rep G) (es ++ ys).flatten (old.toList ++ new.toList) := by rw [List.flatten_append]; exact ho.append hn
  have i1 : Inv G h' w := hi.sub hsub
  have i2 : Inv G h' w' := i1.same hw
  have hsz : (old ++ new ++ rest).size = cap * sz := by
    have e1 := F2.length ho
    have e2 := F2.length hn
    rw [flatten_length h1] at e1
    rw [flatten_length h2] at e2
    simp at e1 e2
    simp only [Array.size_append, hr, ← e1, ← e2]
    rw [← Nat.add_mul, ← Nat.add_mul]
    congr 1
    omega
  have hfn : h' n = none := hsub.none (hf n (Nat.le_refl _)).1
  have i3 := i2.addObj (n := n) (pl := ⟨w.heap.size, sz, es.length + ys.length, cap⟩) (ob := .row (es ++ ys)) hfn (hf n (Nat.le_refl _)).2 (fun hl => not_live_new i1 hl)
    ⟨by simp, hcap, _, _, _, hb, Nat.le_of_eq hsz.symm, fun o _ => by simp, fun i e he => ⟨hall e (List.mem_of_getElem? he), fun j x hx => by
      obtain ⟨v, h3, h4⟩ := rows_cells hall htold he hx
      refine ⟨v, ?_, h4⟩
      have hlt := (List.getElem?_eq_some_iff.1 h3).1
      have : (old ++ new ++ rest).toList[i * sz + j]? = some v := by
        rw [Array.toList_append, Array.toList_append, List.getElem?_append_left hlt]; exact h3
      rw [← Array.getElem?_toList]
      exact this⟩⟩ (fun o x hx => by
      obtain ⟨v, h7, _⟩ := i1.fx _ _ _ hx
      have := cell_lt h7
      simp at this)
  refine ⟨_, ⟨⟨w.heap.size, sz, es.length + ys.length, cap⟩, by simp [Ghost.addObj], rfl⟩, i3, ?_⟩
  have hf' : Fresh G h' n := fun id hid => ⟨hsub.none (hf id hid).1, (hf id hid).2⟩
  have := Ext.newObj (.refl G) rfl hw hf' (pl := ⟨w.heap.size, sz, es.length + ys.length, cap⟩) (Nat.le_refl _) (.row (es ++ ys))
  exact ⟨this.le, this.os, this.tape, this.output, this.size, fun b hb hl => this.keep b hb (fun hl' => hl (hl'.sub hsub)), fun b hl => by
    rcases this.live b hl with hb' | hb'
    · exact .inl hb'
    · exact .inr (hb'.sub hsub), this.next, this.fresh⟩

/-- A row that may be written, and has room. -/
theorem room_stateM (hi : Inv G h w) (hf : Fresh G h n) {id : Nat} {pl : Place} (hp : G.obj id = some pl) {es ys : List (List AC)} (hid : h id = some (.row es)) {new : Array Value} (h2 : ∀ e ∈ ys, e.length = pl.sz)
    (hn : F2 (Rep G) ys.flatten new.toList) (hcap : es.length + ys.length ≤ pl.cap) :
    ∃ G' w', (storeCells ⟨pl.blk, es.length * pl.sz, none⟩ new.toList).run P w = .ok () w' ∧ Rep G' (.msl n) (.slice (some ⟨pl.blk, 0, none⟩) (es.length + ys.length) pl.cap) ∧
      Inv G' ((h.del id).upd n (.row (es ++ ys))) w' ∧ Ext G h n w G' ((h.del id).upd n (.row (es ++ ys))) (n + 1) w' := by
  obtain ⟨pl', h3, hlen, hle, cs, el, fr, h4, h5, h6, h7⟩ := hi.obj id _ hid
  rw [hp] at h3; cases h3
  have hall : ∀ e ∈ es ++ ys, e.length = pl.sz := fun e he => by
    rcases List.mem_append.1 he with he | he
    · obtain ⟨i, hi'⟩ := List.mem_iff_getElem?.1 he
      exact (h7 i e hi').1
    · exact h2 e he
  have hnl : new.toList.length = ys.length * pl.sz := by rw [← F2.length hn, flatten_length h2]
  have hsum : es.length * pl.sz + ys.length * pl.sz ≤ pl.cap * pl.sz := by rw [← Nat.add_mul]; exact Nat.mul_le_mul_right _ hcap
  obtain ⟨cur', w', h8, h9, h10, h11⟩ := storeCells_run (P := P) pl.blk (es.length * pl.sz) el fr new.toList 0 cs w h4 (by omega) (cells_one hn) (fun k hk => h6 _ (by omega))
  have hlive : Live G h pl.blk := ⟨id, pl, by rw [hid]; simp, hp, rfl⟩
  have hnl1 : ¬ Live G (h.del id) pl.blk := by
    rintro ⟨i, p, k1, k2, k3⟩
    by_cases hii : i = id
    · subst hii; exact k1 (del_none _ _)
    · rw [del_ne hii] at k1
      exact hii (hi.excl i id p pl k1 (by rw [hid]; simp) k2 hp k3)
  have nofx : ∀ o x, ¬ G.fx pl.blk o x := by
    intro o x hx
    have := (hi.exclS id pl o x (by rw [hid]; simp) hp hx).1
    rw [hid] at this; cases this
  have i1 : Inv G (h.del id) w' := by
    have i0 := hi.sub (sub_del h id)
    refine ⟨fun b o x hx => ?_, i0.cap, fun i ob e => ?_, i0.excl, i0.exclS⟩
    · obtain ⟨v, k1, k2⟩ := i0.fx b o x hx
      exact ⟨v, (cell_same (h11.block b (fun e => nofx o x (e ▸ hx))) o).trans k1, k2⟩
    · obtain ⟨p, k1, k2⟩ := i0.obj i ob e
      exact ⟨p, k1, k2.of_block (.refl G) (h11.block _ (fun k3 => hnl1 ⟨i, p, by rw [e]; simp, k1, k3⟩))⟩
  have hfn : (h.del id) n = none := (sub_del h id).none (hf n (Nat.le_refl _)).1
  have hgn : G.obj n = none := (hf n (Nat.le_refl _)).2
  have hcs : es.length * pl.sz ≤ cs.toList.length := by simp; omega
  have hmin : min (es.length * pl.sz) cs.toList.length = es.length * pl.sz := by omega
  have hold : ∀ q : Nat, q < es.length * pl.sz → cur'[q]? = cs[q]? := fun q hq => by
    have := congrArg (fun l : List Value => l[q]?) h10
    simp only [Nat.add_zero] at this
    rw [List.append_assoc, List.getElem?_append_left (by rw [List.length_take, hmin]; exact hq), List.getElem?_take_of_lt hq] at this
    simpa using this
  have hnew : ∀ q : Nat, q < ys.length * pl.sz → cur'[es.length * pl.sz + q]? = new.toList[q]? := fun q hq => by
    have := congrArg (fun l : List Value => l[es.length * pl.sz + q]?) h10
    simp only [Nat.add_zero] at this
    rw [List.append_assoc, List.getElem?_append_right (by rw [List.length_take, hmin]; omega), List.getElem?_append_left (by rw [List.length_take, hmin]; omega), List.length_take, hmin,
      show es.length * pl.sz + q - es.length * pl.sz = q by omega] at this
    simpa using this
  have i3 := i1.addObj (n := n) (pl := ⟨pl.blk, pl.sz, es.length + ys.length, pl.cap⟩) (ob := .row (es ++ ys)) hfn hgn hnl1
    ⟨by simp, hcap, cur', el, fr, h9, by
      have : cur'.toList.length = cs.toList.length := by rw [h10]; simp only [List.length_append, List.length_take, List.length_drop, Array.length_toList] at hnl ⊢; omega
      simp at this
      show pl.cap * pl.sz ≤ cur'.size
      omega, h6, fun i e he => ⟨hall e (List.mem_of_getElem? he), fun j x hx => by
        have hjs : j < pl.sz := by rw [← hall e (List.mem_of_getElem? he)]; exact (List.getElem?_eq_some_iff.1 hx).1
        show ∃ v, cur'[i * pl.sz + j]? = some v ∧ Rep G x v
        by_cases hi' : i < es.length
        · rw [List.getElem?_append_left hi'] at he
          have : i * pl.sz + pl.sz ≤ es.length * pl.sz := by rw [← Nat.succ_mul]; exact Nat.mul_le_mul_right _ hi'
          obtain ⟨v, k1, k2⟩ := (h7 i e he).2 j x hx
          exact ⟨v, by rw [hold _ (by omega)]; exact k1, k2⟩
        · rw [List.getElem?_append_right (by omega)] at he
          obtain ⟨v, k1, k2⟩ := rows_cells h2 hn he hx
          have hlt := (List.getElem?_eq_some_iff.1 k1).1
          refine ⟨v, ?_, k2⟩
          rw [show i * pl.sz + j = es.length * pl.sz + ((i - es.length) * pl.sz + j) by rw [← Nat.add_assoc, ← Nat.add_mul]; congr 2; omega]
          rw [hnew _ (by omega)]; exact k1⟩⟩ (fun o x hx => absurd hx (nofx o x))
  refine ⟨_, w', h8, ⟨⟨pl.blk, pl.sz, es.length + ys.length, pl.cap⟩, by simp [Ghost.addObj], rfl⟩, i3, ?_⟩
  refine ⟨Ghost.le_addObj _ hgn, h11.os, h11.tape, h11.output, Nat.le_of_eq h11.size.symm, fun b hb hl => h11.block b (fun e => hl (e ▸ hlive)), fun b hl => ?_, by omega, ?_⟩
  · rcases hl.addObj with rfl | hl
    · exact .inr hlive
    · exact .inr (Live.sub (sub_del h id) hl)
  · have hf' : Fresh G (h.del id) n := fun i hid => ⟨(sub_del h id).none (hf i hid).1, (hf i hid).2⟩
    exact hf'.upd _ _

theorem appM_run (hi : Inv G h w) (hf : Fresh G h n) {t e u ty : TypeId} {sz bytes : Nat} (ht : P.underlying t = some (.slice e)) (hs : szOk P sz e = true) (hb : byOk P bytes e = true) (hb0 : 0 < bytes) (hs0 : 0 < sz) (hu : noInt P u = true)
    {z : List Value} (hz : elemZero P e sz = some z) {id : Nat} {es ys : List (List AC)} {x : AC} {p : Prop} {vs vx : Value} (hS : Rep G (.msl id) vs) (hid : h id = some (.row es)) (hes : es ≠ []) (hesz : ∀ e ∈ es, e.length = sz) (hX : Rep G x vx) (he : viewV sz h x = some (p, ys)) (hsz : p)
    (hc2 : (es.length + ys.length) * bytes ≤ 2 ^ 47) :
    ∃ cv w' G', (Builtin.append_ #[t, u] ty #[vs, vx]).run P w = .ok cv w' ∧ Rep G' (.msl n) cv ∧ Inv G' ((h.del id).upd n (.row (es ++ ys))) w' ∧ Ext G h n w G' ((h.del id).upd n (.row (es ++ ys))) (n + 1) w' := by
  obtain ⟨f1, new, f2, f3, f4⟩ := first_run (P := P) hi hX he hsz
  obtain ⟨pl, hp, rfl⟩ := hS
  obtain ⟨pl', h3, hlen, hle, cs, el, fr, h4, h5, h6, h7⟩ := hi.obj id _ hid
  rw [hp] at h3; cases h3
  have hplsz : pl.sz = sz := by
    cases es with
    | nil => exact absurd rfl hes
    | cons e r => have := (h7 0 e rfl).1; rw [← this]; exact hesz e List.mem_cons_self
  subst hplsz
  rcases Nat.lt_or_ge pl.cap (es.length + ys.length) with hg | hg
  · have hold : ∃ old : Array Value, (∀ d, (Builtin.firstCells pl.sz es.length (.slice (some ⟨pl.blk, 0, none⟩) pl.len pl.cap)).run P { w with drawn := d } = .ok old { w with drawn := d }) ∧ F2 (Rep G) es.flatten old.toList := by
      obtain ⟨vs, h1, h2⟩ := told (G := G) (w := w) (b := pl.blk) (o := 0) (cs := es.flatten) (fun j x hj => by
        obtain ⟨i, e, q, h3, h4', h5', rfl⟩ := flatten_get hesz hj
        obtain ⟨v, k1, k2⟩ := (h7 i e h3).2 q x h4'
        exact ⟨v, by simp only [World.cell?, h4, Nat.zero_add]; simpa using k1, k2⟩)
      have hl : vs.length = es.length * pl.sz := by rw [← F2.length h1, flatten_length hesz]
      refine ⟨vs.toArray, fun d => ?_, by simpa using h1⟩
      have := loadCells_run (P := P) (w := { w with drawn := d }) (cs := vs) h2
      rw [hl] at this
      simpa [Builtin.firstCells] using this
    obtain ⟨old, o2, o3⟩ := hold
    rw [hlen] at o2 hg hc2
    obtain ⟨cap', rest, g1, g2, g3⟩ := append_grow (P := P) (w := w) (ty := ty) ht hs hb hb0 hu hz f1 f2 o2 hg hc2
    rw [← hlen] at g1 g2 g3
    obtain ⟨G', g4, g5, g6⟩ := grow_stateM (G := G) hi hf (sub_del h id) (e := e) hesz f4 o3 f3 g1 g2 (w' := { w with drawn := w.drawn + 1, heap := w.heap.push (.cells (old ++ new ++ rest) e) })
      ((Same.drew w).trans (Same.alloc _ _)) (by simp)
    rw [hlen] at g3
    exact ⟨_, _, G', g3, by rw [← hlen]; exact g4, g5, g6⟩
  · obtain ⟨G', w', r1, r2, r3, r4⟩ := room_stateM (P := P) hi hf hp hid f4 f3 hg
    refine ⟨_, w', G', ?_, r2, r3, r4⟩
    rw [hlen] at hg r1 ⊢
    exact append_room (P := P) (w := w) (bytes := bytes) ht hs hu f1 (f2 w.drawn) hg (by simpa [add_off] using r1)

/-- An append onto what is full: a new row, which may be written. -/
theorem appN_run (hi : Inv G h w) (hf : Fresh G h n) {t e u ty : TypeId} {sz bytes : Nat} (ht : P.underlying t = some (.slice e)) (hs : szOk P sz e = true) (hb : byOk P bytes e = true) (hb0 : 0 < bytes) (hu : noInt P u = true)
    {z : List Value} (hz : elemZero P e sz = some z) {s x : AC} {q p : Prop} {es ys : List (List AC)} {vs vx : Value} (hS : Rep G s vs) (hes : viewV sz h s = some (q, es)) (hq : q) (hfull : ∃ ad, vs = .slice ad es.length es.length) (hX : Rep G x vx) (he : viewV sz h x = some (p, ys)) (hp : p)
    (hc : ys.isEmpty = true ∨ (es.length + ys.length) * bytes ≤ 2 ^ 47) :
    ∃ cv w' G', (Builtin.append_ #[t, u] ty #[vs, vx]).run P w = .ok cv w' ∧ RepV G' (bif ys.isEmpty then .c s else .c (.msl n)) cv ∧ Inv G' (bif ys.isEmpty then h else h.upd n (.row (es ++ ys))) w' ∧
      Ext G h n w G' (bif ys.isEmpty then h else h.upd n (.row (es ++ ys))) (bif ys.isEmpty then n else n + 1) w' := by
  obtain ⟨f1, new, f2, f3, f4⟩ := first_run (P := P) hi hX he hp
  obtain ⟨o1, old, o2, o3, o4⟩ := first_run (P := P) hi hS hes hq
  obtain ⟨ad, hve⟩ := hfull
  cases hys : ys.isEmpty with
  | true =>
    have : ys = [] := by simpa using hys
    subst this
    have hn : new.toList = [] := by
      have := F2.length f3
      simpa using this.symm
    refine ⟨vs, w, G, ?_, hS, hi, Ext.refl w hf⟩
    rw [hve]
    have := append_room (P := P) (w := w) (bytes := bytes) (ty := ty) (base := ad) (len := es.length) (cap := es.length) ht hs hu f1 (f2 w.drawn) (by simp) (w' := w) (by rw [hn]; cases ad <;> simp [storeCells])
    simpa using this
  | false =>
    rw [hys] at hc
    simp only [Bool.false_eq_true, false_or] at hc
    have hpos : 0 < ys.length := by
      cases ys with
      | nil => simp at hys
      | cons _ _ => simp
    simp only [cond_false]
    rw [hve] at o2 ⊢
    obtain ⟨cap', rest, g1, g2, g3⟩ := append_grow (P := P) (w := w) (ty := ty) ht hs hb hb0 hu hz f1 f2 o2 (by omega) hc
    obtain ⟨G', g4, g5, g6⟩ := grow_stateM (G := G) hi hf (h' := h) (fun _ _ hh => hh) (e := e) o4 f4 o3 f3 g1 g2 (w' := { w with drawn := w.drawn + 1, heap := w.heap.push (.cells (old ++ new ++ rest) e) })
      ((Same.drew w).trans (Same.alloc _ _)) (by simp)
    exact ⟨_, _, G', g3, g4, g5, g6⟩

theorem replicate_flat (z : List AC) (n : Nat) : (List.replicate n z).flatten.length = n * z.length := by simp [List.length_flatten]

theorem F2.replicate {α β : Type} {R : α → β → Prop} {l : List α} {m : List β} (H : F2 R l m) : ∀ n, F2 R (List.replicate n l).flatten (List.replicate n m).flatten
  | 0 => by simpa using F2.nil
  | n + 1 => by simpa [List.replicate_succ] using H.append (F2.replicate H n)

/-- A row that is made. -/
theorem mksl_run (hi : Inv G h w) (hf : Fresh G h n) {t e : TypeId} {sz bytes : Nat} (ht : P.underlying t = some (.slice e)) (hs : szOk P sz e = true) (hb : byOk P bytes e = true) (hb0 : 0 < bytes) (hs0 : 0 < sz)
    {z : List Value} (hz : elemZero P e sz = some z) {zero : List AC} (hzero : acsOk z zero = true) {kl kc : IntKind} {l c : Int} (h0 : 0 ≤ l) (hlc : l ≤ c) (hc : c.toNat * bytes ≤ 2 ^ 47) (m : Bool) :
    ∃ cv w' G', (Instr.makeSlice t (.int kl l) (.int kc c)).run P w = .ok cv w' ∧ RepV G' (bif m then .c (.msl n) else .c (.sl sz (List.replicate l.toNat zero) (.tok n))) cv ∧
      Inv G' (h.upd n (bif m then .row (List.replicate l.toNat zero) else .spare)) w' ∧ Ext G h n w G' (h.upd n (bif m then .row (List.replicate l.toNat zero) else .spare)) (n + 1) w' := by
  obtain ⟨ie, zv, h1, h2, h3, rfl, h4⟩ := elemZero_some hz
  obtain ⟨ie', h5, h6⟩ := szOk_some hs
  rw [h1] at h5; cases h5
  subst h6
  have hby : ie.bytes = bytes := by simpa [byOk, h1] using hb
  have hcb : c.toNat ≤ 2 ^ 47 := Nat.le_trans (Nat.le_mul_of_pos_right _ hb0) hc
  have hcn : ((c.toNat : Nat) : Int) = c := by omega
  have hbb : (ie.bytes : Int) * c ≤ 281474976710656 := by
    rw [hby, ← hcn, Int.mul_comm]
    have : ((c.toNat * bytes : Nat) : Int) ≤ ((2 ^ 47 : Nat) : Int) := by exact_mod_cast hc
    rw [Int.natCast_mul] at this
    omega
  have hrun := run_make (P := P) w t e ie zv ht h1 h2 kl kc l c h0 hlc hbb (by omega)
  have hcl : (madeCells zv.cells (c.toNat * ie.size)).toList = (List.replicate c.toNat zv.cells.toList).flatten := zeros_list h3 hs0 c.toNat
  have hrep : F2 (Rep G) zero zv.cells.toList := acsOk_rep hzero
  have hzl : zero.length = ie.size := by rw [F2.length hrep]; simpa using h3
  generalize hC : madeCells zv.cells (c.toNat * ie.size) = C at hrun hcl
  have hCs : C.size = c.toNat * ie.size := by
    have := congrArg List.length hcl
    rw [← F2.length (F2.replicate hrep c.toNat), replicate_flat, hzl] at this
    simpa using this
  have hle : l.toNat * ie.size ≤ c.toNat * ie.size := Nat.mul_le_mul_right _ (by omega)
  have hsplit : C = #[] ++ C.extract 0 (l.toNat * ie.size) ++ C.extract (l.toNat * ie.size) C.size := by
    rw [Array.empty_append, Array.extract_append_extract]
    simp only [Nat.zero_le, Nat.min_eq_left]
    rw [Nat.max_eq_right (by omega)]
    simp
  have hnew : F2 (Rep G) (List.replicate l.toNat zero).flatten (C.extract 0 (l.toNat * ie.size)).toList := by
    have h7 : (C.extract 0 (l.toNat * ie.size)).toList = (List.replicate l.toNat zv.cells.toList).flatten := by
      rw [Array.toList_extract, hcl, List.extract_eq_take_drop]
      simp only [Nat.sub_zero, List.drop_zero]
      have hzv : zv.cells.toList.length = ie.size := by simpa using h3
      have hlv : ∀ k, (List.replicate k zv.cells.toList).flatten.length = k * ie.size := fun k => by
        rw [← F2.length (F2.replicate hrep k), replicate_flat, hzl]
      rw [show c.toNat = l.toNat + (c.toNat - l.toNat) by omega, ← List.replicate_append_replicate, List.flatten_append, List.take_append_of_le_length (by rw [hlv]; exact Nat.le_refl _)]
      rw [List.take_of_length_le (by rw [hlv]; exact Nat.le_refl _)]
    rw [h7]
    exact F2.replicate hrep _
  have hall : ∀ e ∈ List.replicate l.toNat zero, e.length = ie.size := fun e he => by rw [(List.mem_replicate.1 he).2]; exact hzl
  have hrest : (C.extract (l.toNat * ie.size) C.size).size = (c.toNat - (([] : List (List AC)).length + (List.replicate l.toNat zero).length)) * ie.size := by
    simp only [Array.size_extract, List.length_nil, List.length_replicate, Nat.zero_add, hCs, Nat.min_self, Nat.sub_mul]
  rw [hsplit] at hrun
  have hgot : ({ w with heap := w.heap.push (.cells (#[] ++ C.extract 0 (l.toNat * ie.size) ++ C.extract (l.toNat * ie.size) C.size) e) } : World).heap[w.heap.size]? = some (.cells (#[] ++ C.extract 0 (l.toNat * ie.size) ++ C.extract (l.toNat * ie.size) C.size) e (0, 0)) := by simp
  have hcap : ([] : List (List AC)).length + (List.replicate l.toNat zero).length ≤ c.toNat := by simp; omega
  cases m with
  | true =>
    obtain ⟨G', g1, g2, g3⟩ := grow_stateM (G := G) hi hf (h' := h) (fun _ _ hh => hh) (e := e) (es := []) (ys := List.replicate l.toNat zero) (sz := ie.size) (old := #[]) (by simp) hall (by simpa using F2.nil) hnew hcap hrest (Same.alloc w _) hgot
    refine ⟨_, _, G', hrun, ?_, by simpa using g2, by simpa using g3⟩
    show Rep G' (.msl n) _
    simpa using g1
  | false =>
    obtain ⟨G', g1, g2, g3⟩ := grow_state (G := G) hi hf (c := .nil) (e := e) (es := []) (ys := List.replicate l.toNat zero) (sz := ie.size) (old := #[]) hs0 (by simp) hall (by simpa using F2.nil) hnew hcap hrest (Same.alloc w _) hgot
    refine ⟨_, _, G', hrun, ?_, by simpa [delCp] using g2, by simpa [delCp] using g3⟩
    show Rep G' (.sl ie.size (List.replicate l.toNat zero) (.tok n)) _
    simpa using g1

theorem set_same {α : Type} {l : List α} {i : Nat} {x : α} (h : l[i]? = some x) : l.set i x = l := by
  apply List.ext_getElem?
  intro j
  by_cases hj : i = j
  · subst hj
    rw [h, List.getElem?_set_self (List.getElem?_eq_some_iff.1 h).1]
  · rw [List.getElem?_set_ne hj]
theorem upd_same {h : Heap} {i : Nat} {o : AObj} (hi : h i = some o) : h.upd i o = h := by
  funext j; simp only [Heap.upd]; split
  · rename_i e; rw [e, hi]
  · rfl

/-- Cells are copied over cells of a row that may be written. -/
theorem cpy_run (hi : Inv G h w) (hf : Fresh G h n) {t e ty : TypeId} {ts : List TypeId} {sz : Nat} (ht : P.underlying t = some (.slice e)) (hs : szOk P sz e = true) (hs0 : 0 < sz) {x : AC} {p : Prop} {ys : List (List AC)} {vd vx : Value} (hX : Rep G x vx) (he : viewV sz h x = some (p, ys)) (hp : p)
    {id i off m : Nat} (hD : Rep G (.psl id i off sz m) vd) {es : List (List AC)} (hid : h id = some (.row es)) {el : List AC} (hel : es[i]? = some el) (hoff : off + m * sz ≤ el.length) :
    ∃ w', (Builtin.copy_ (t :: ts).toArray ty #[vd, vx]).run P w = .ok (.int .i64 (min ys.length m : Nat)) w' ∧ Inv G (h.upd id (.row (es.set i (lay el off (ys.take m).flatten)))) w' ∧ Ext G h n w G (h.upd id (.row (es.set i (lay el off (ys.take m).flatten)))) n w' := by
  obtain ⟨f1, new, f2, f3, f4⟩ := firsts_run (P := P) hi hX he hp (m := min ys.length m) (Nat.min_le_left _ _)
  have htk : ys.take (min ys.length m) = ys.take m := by
    rcases Nat.le_total ys.length m with hle | hle
    · rw [Nat.min_eq_left hle, List.take_length, List.take_of_length_le hle]
    · rw [Nat.min_eq_right hle]
  rw [htk] at f3
  have hlen : (ys.take m).flatten.length = min ys.length m * sz := by
    rw [flatten_length (sz := sz) (fun e he => f4 e (List.mem_of_mem_take he)), List.length_take, Nat.min_comm]
  have f2' := f2 w.drawn
  obtain ⟨pl, p1, p2⟩ := hD
  have hel' : off + (ys.take m).flatten.length ≤ el.length := by
    rw [hlen]
    have := Nat.mul_le_mul_right sz (Nat.min_le_right ys.length m)
    omega
  rcases p2 with ⟨cap, rfl, hcap⟩ | ⟨rfl, ad, cap, rfl⟩
  · obtain ⟨w', r1, r2, r3⟩ := storeC_run (P := P) hi hf hid hel p1 (v := .agg new) f3 hel'
    refine ⟨w', ?_, r2, r3⟩
    have r1' : (storeCells ⟨pl.blk, i * pl.sz + off, none⟩ new.toList).run P w = .ok () w' := r1
    simp only [Builtin.copy_, List.getElem?_toArray, List.getElem?_cons_zero, Sem.run_bind, run_underlying ht, Result.andThen_ok, f1, sizeOf_run hs, Sem.run_pure]
    simp only [List.getElem?_cons_succ, List.getElem?_cons_zero, Sem.run_bind, run_underlying ht, f1, Result.andThen_ok, sizeOf_run hs, show Nat.min ys.length m = min ys.length m from rfl, f2', r1', goInt, Sem.run_pure]
  · have hnew : new = #[] := by
      have := F2.length f3
      rw [hlen] at this
      simp only [Nat.min_zero, Nat.zero_mul, Array.length_toList] at this
      exact Array.eq_empty_of_size_eq_zero this.symm
    subst hnew
    have hnil : (ys.take 0).flatten = [] := by simp
    rw [hnil]
    have hl0 : lay el off [] = el := by simp [lay]
    rw [hl0, set_same hel, upd_same hid]
    refine ⟨w, ?_, hi, Ext.refl w hf⟩
    simp only [Builtin.copy_, List.getElem?_toArray, List.getElem?_cons_zero, Sem.run_bind, run_underlying ht, Result.andThen_ok, f1, sizeOf_run hs, Sem.run_pure]
    simp only [List.getElem?_cons_succ, List.getElem?_cons_zero, Sem.run_bind, run_underlying ht, f1, Result.andThen_ok, sizeOf_run hs, show Nat.min ys.length 0 = min ys.length 0 from rfl, f2', goInt, Sem.run_pure]
    cases ad <;> simp [storeCells]

end
end Go.Ab
