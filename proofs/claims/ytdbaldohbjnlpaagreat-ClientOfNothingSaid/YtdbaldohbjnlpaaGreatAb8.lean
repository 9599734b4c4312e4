/- Operations that make or turn objects. -/
import Derived.Test.YtdbaldohbjnlpaaGreatAb7
set_option linter.unusedVariables false
set_option linter.unusedSimpArgs false
namespace Go.Ab
section
variable {P : Program} {G : Ghost} {h : Heap} {w : World} {nt : Nat} {env : Env} {a : Act} {n : Nat}

theorem Ext.newObj {G1 : Ghost} (hG : G.Le G1) (ho : G1.obj = G.obj) {w' : World} (hs : Same w w') (hf : Fresh G h n) {pl : Place} (hb : w.heap.size ≤ pl.blk) (ob : AObj) :
    Ext G h n w (G1.addObj n pl) (h.upd n ob) (n + 1) w' := by
  have hf1 : Fresh G1 h n := fun id hid => ⟨(hf id hid).1, by rw [ho]; exact (hf id hid).2⟩
  refine ⟨hG.trans (Ghost.le_addObj pl (hf1 n (Nat.le_refl _)).2), hs.os, hs.tape, hs.output, hs.size, fun b h1 _ => hs.block b h1, fun b hl => ?_, by omega, hf1.upd pl ob⟩
  rcases hl.addObj with rfl | h1
  · exact .inl hb
  · obtain ⟨id, p, h2, h3, h4⟩ := h1
    exact .inr ⟨id, p, h2, by rw [← ho]; exact h3, h4⟩

/-- One block's cells are written; nothing else turns. -/
structure Put (w w' : World) (g : Nat) : Prop where
  os : w'.os = w.os
  tape : w'.tape = w.tape
  output : w'.output = w.output
  size : w'.heap.size = w.heap.size
  block : ∀ b, b ≠ g → w'.heap[b]? = w.heap[b]?

theorem storeCells_run (g o : Nat) (t : TypeId) (fr : Nat × Nat) : ∀ (vs : List Value) (i : Nat) (cur : Array Value) (w : World), w.heap[g]? = some (.cells cur t fr) → o + i + vs.length ≤ cur.size →
    (∀ v ∈ vs, v.oneCell' = true) → (∀ k, k < vs.length → ¬ (fr.1 ≤ o + i + k ∧ o + i + k < fr.2)) →
    ∃ cur' w', (storeCells ⟨g, o, none⟩ vs i).run P w = .ok () w' ∧ w'.heap[g]? = some (.cells cur' t fr) ∧ cur'.toList = cur.toList.take (o + i) ++ vs ++ cur.toList.drop (o + i + vs.length) ∧ Put w w' g
  | [], i, cur, w, hg, hl, hv, hf => ⟨cur, w, by simp [storeCells], hg, by simp, rfl, rfl, rfl, rfl, fun _ _ => rfl⟩
  | v :: vs, i, cur, w, hg, hl, hv, hf => by
    simp only [List.length_cons] at hl
    have hlt : o + i < cur.size := by omega
    have h1 : w.cell? ⟨g, o + i, none⟩ = some cur[o + i] := by simp [World.cell?, hg, hlt]
    have h2 : w.frozen? ⟨g, o + i, none⟩ = false := by
      have := hf 0 (by simp)
      simp only [World.frozen?, hg, Bool.and_eq_false_iff, decide_eq_false_iff_not]
      omega
    have hset : (w.setCell ⟨g, o + i, none⟩ v).heap[g]? = some (.cells (cur.setIfInBounds (o + i) v) t fr) := by
      simp [World.setCell, Array.getElem?_modify, hg]
    obtain ⟨cur', w', h3, h4, h5, h6⟩ := storeCells_run g o t fr vs (i + 1) (cur.setIfInBounds (o + i) v) (w.setCell ⟨g, o + i, none⟩ v) hset (by simp; omega)
      (fun u hu => hv u (List.mem_cons_of_mem _ hu)) (fun k hk => by have := hf (k + 1) (by simp; omega); rwa [show o + (i + 1) + k = o + i + (k + 1) from by omega])
    refine ⟨cur', w', ?_, h4, ?_, h6.os, h6.tape, h6.output, by rw [h6.size]; simp [World.setCell], fun b hb => ?_⟩
    · simp only [storeCells, Sem.run_bind, add_off]
      rw [run_store P w _ v .plain (hv v (List.mem_cons_self))]
      simp only [h1, h2, Bool.false_eq_true, if_false, Result.andThen_ok, h3]
    · rw [h5]
      simp only [Array.toList_setIfInBounds, List.length_cons]
      have e1 : o + (i + 1) = o + i + 1 := by omega
      rw [e1]
      have hk' : o + i < cur.toList.length := by simpa using hlt
      rw [List.drop_set_of_lt (by omega), List.take_succ_eq_append_getElem (by simpa using hlt), List.take_set_of_le (by omega)]
      simp only [List.getElem_set_self, List.append_assoc, List.cons_append, List.nil_append]
      congr 4
      omega
    · rw [h6.block b hb]
      simp [World.setCell, Array.getElem?_modify, Ne.symm hb]

theorem Put.keep {w w' : World} {g : Nat} (p : Put w w' g) (b : Nat) (h : b ≠ g) : w'.heap[b]? = w.heap[b]? := p.block b h

theorem Ext.put {w' : World} {g : Nat} (p : Put w w' g) (hf : Fresh G h n) (hl : Live G h g) {h' : Heap} (hh : ∀ id, h' id ≠ none → h id ≠ none) : Ext G h n w G h' n w' :=
  ⟨.refl G, p.os, p.tape, p.output, Nat.le_of_eq p.size.symm, fun b _ hb => p.block b (fun e => hb (e ▸ hl)), fun b hb => .inr (by
      obtain ⟨id, pl, h1, h2, h3⟩ := hb
      exact ⟨id, pl, hh id h1, h2, h3⟩), Nat.le_refl _, fun id hid => ⟨by
      cases e : h' id with
      | none => rfl
      | some _ => exact absurd (hf id hid).1 (hh id (by rw [e]; simp)), (hf id hid).2⟩⟩

/-- A row of the heap is turned. -/
theorem Inv.setRow (hi : Inv G h w) {w' : World} {id : Nat} {es es' : List (List AC)} {pl : Place} (he : h id = some (.row es)) (hp : G.obj id = some pl) (p : Put w w' pl.blk)
    (ho : ObjOk G w' pl (.row es')) : Inv G (h.upd id (.row es')) w' := by
  have hne : ∀ i, h.upd id (.row es') i ≠ none → h i ≠ none := by
    intro i hi'
    by_cases e : i = id
    · subst e; rw [he]; simp
    · rwa [upd_ne e] at hi'
  have nofx : ∀ o x, ¬ G.fx pl.blk o x := by
    intro o x hx
    have := (hi.exclS id pl o x (by rw [he]; simp) hp hx).1
    rw [he] at this; cases this
  refine ⟨fun b o x hx => ?_, hi.cap, fun i ob e => ?_, fun i i' p1 p2 h1 h2 h3 h4 h5 => hi.excl i i' p1 p2 (hne i h1) (hne i' h2) h3 h4 h5, fun i p1 o x h1 h2 h3 => ?_⟩
  · obtain ⟨v, h1, h2⟩ := hi.fx b o x hx
    exact ⟨v, (cell_same (p.block b (fun e => nofx o x (e ▸ hx))) o).trans h1, h2⟩
  · by_cases e' : i = id
    · subst e'
      rw [upd_self] at e; cases e
      exact ⟨pl, hp, ho⟩
    · rw [upd_ne e'] at e
      obtain ⟨p1, h1, h2⟩ := hi.obj i ob e
      refine ⟨p1, h1, h2.of_block (.refl G) (p.block _ (fun e2 => e' ?_))⟩
      exact hi.excl i id p1 pl (by rw [e]; simp) (by rw [he]; simp) h1 hp e2
  · by_cases e' : i = id
    · subst e'
      rw [hp] at h2; cases h2
      exact absurd h3 (nofx o x)
    · rw [upd_ne e'] at h1 ⊢
      exact hi.exclS i p1 o x h1 h2 h3

theorem F2.mem {α β : Type} {R : α → β → Prop} {l : List α} {m : List β} (H : F2 R l m) {y : β} (hy : y ∈ m) : ∃ x, x ∈ l ∧ R x y := by
  induction H with
  | nil => cases hy
  | cons a _ ih =>
    rcases List.mem_cons.1 hy with rfl | hy
    · exact ⟨_, List.mem_cons_self, a⟩
    · obtain ⟨x, h1, h2⟩ := ih hy; exact ⟨x, List.mem_cons_of_mem _ h1, h2⟩

theorem cells_one {cs : List AC} {vs : List Value} (h : F2 (Rep G) cs vs) : ∀ v ∈ vs, v.oneCell' = true := fun v hv => by
  obtain ⟨x, _, h1⟩ := F2.mem h hv
  exact Rep.one h1

/-- What a store into a row's element leaves. -/
theorem storeC_run (hi : Inv G h w) (hf : Fresh G h n) {id i off : Nat} {es : List (List AC)} {e : List AC} (he : h id = some (.row es)) (hei : es[i]? = some e) {pl : Place} (hp : G.obj id = some pl)
    {cs : List AC} {v : Value} (hr : F2 (Rep G) cs v.cells.toList) (hl : off + cs.length ≤ e.length) :
    ∃ w', (storeCells ⟨pl.blk, i * pl.sz + off, none⟩ v.cells.toList).run P w = .ok () w' ∧ Inv G (h.upd id (.row (es.set i (lay e off cs)))) w' ∧ Ext G h n w G (h.upd id (.row (es.set i (lay e off cs)))) n w' := by
  obtain ⟨pl', h1, h2, h3, cells, el, fr, h4, h5, h6, h7⟩ := hi.obj id _ he
  rw [hp] at h1; cases h1
  have hlt : i < es.length := (List.getElem?_eq_some_iff.1 hei).1
  have hesz := (h7 i e hei).1
  have hin : i * pl.sz + pl.sz ≤ pl.cap * pl.sz := by rw [← Nat.succ_mul]; exact Nat.mul_le_mul_right _ (by omega)
  have hvl : v.cells.toList.length = cs.length := (F2.length hr).symm
  obtain ⟨cur', w', h8, h9, h10, h11⟩ := storeCells_run (P := P) pl.blk (i * pl.sz + off) el fr v.cells.toList 0 cells w h4 (by omega) (cells_one hr) (fun k hk => h6 _ (by omega))
  refine ⟨w', ?_, ?_, Ext.put h11 hf ⟨id, pl, by rw [he]; simp, hp, rfl⟩ (fun j hj => ?_)⟩
  · exact h8
  · refine hi.setRow he hp h11 ⟨by simp [h2], h3, cur', el, fr, h9, ?_, h6, fun j e' hj => ?_⟩
    · have hvs : v.cells.size = cs.length := by simpa using hvl
      have : cur'.toList.length = cells.toList.length := by rw [h10]; simp only [List.length_append, List.length_take, List.length_drop, Array.length_toList]; omega
      simp at this; omega
    · by_cases hji : j = i
      · subst hji
        rw [List.getElem?_set_self hlt] at hj
        cases hj
        refine ⟨by rw [lay_length hl]; exact hesz, fun q x hx => ?_⟩
        -- the cell's new value
        have hc : ∀ q x, e[q]? = some x → ∃ v, cells[j * pl.sz + q]? = some v ∧ Rep G x v := (h7 j e hei).2
        have hcur : ∀ q : Nat, cur'[j * pl.sz + q]? = (cells.toList.take (j * pl.sz + off) ++ v.cells.toList ++ cells.toList.drop (j * pl.sz + off + v.cells.toList.length))[j * pl.sz + q]? := by
          intro q
          have := congrArg (fun l : List Value => l[j * pl.sz + q]?) h10
          simpa using this
        rw [hcur]
        unfold lay at hx
        have hcl : j * pl.sz + off ≤ cells.toList.length := by simp; omega
        by_cases c1 : q < off
        · rw [List.append_assoc, List.getElem?_append_left (by simp; omega), List.getElem?_take_of_lt c1] at hx
          rw [List.append_assoc, List.getElem?_append_left (by simp; omega), List.getElem?_take_of_lt (by omega)]
          obtain ⟨u, h12, h13⟩ := hc q x hx
          exact ⟨u, by simpa using h12, h13⟩
        · by_cases c2 : q < off + cs.length
          · rw [List.append_assoc, List.getElem?_append_right (by simp; omega), List.getElem?_append_left (by simp; omega)] at hx
            rw [List.append_assoc, List.getElem?_append_right (by simp; omega), List.getElem?_append_left (by simp at hvl ⊢; omega)]
            obtain ⟨u, h12, h13⟩ := told_get hr hx
            refine ⟨u, ?_, h13⟩
            rw [← h12]
            congr 1
            simp
            omega
          · rw [List.getElem?_append_right (by simp; omega), List.getElem?_drop] at hx
            rw [List.getElem?_append_right (by simp at hvl ⊢; omega), List.getElem?_drop]
            obtain ⟨u, h12, h13⟩ := hc _ x hx
            refine ⟨u, ?_, h13⟩
            have h14 : cells.toList[j * pl.sz + (off + cs.length + (q - (e.take off ++ cs).length))]? = some u := by simpa using h12
            rw [← h14]
            congr 1
            simp at hvl ⊢
            omega
      · rw [List.getElem?_set_ne (Ne.symm hji)] at hj
        have h12 := h7 j e' hj
        refine ⟨h12.1, fun q x hx => ?_⟩
        obtain ⟨u, h13, h14⟩ := h12.2 q x hx
        refine ⟨u, ?_, h14⟩
        have hq : q < pl.sz := by rw [← h12.1]; exact (List.getElem?_eq_some_iff.1 hx).1
        have := congrArg (fun l : List Value => l[j * pl.sz + q]?) h10
        have h15 : cells.toList[j * pl.sz + q]? = some u := by simpa using h13
        have h16 : cur'[j * pl.sz + q]? = (cells.toList.take (i * pl.sz + off) ++ v.cells.toList ++ cells.toList.drop (i * pl.sz + off + v.cells.toList.length))[j * pl.sz + q]? := by simpa using this
        rw [h16]
        have hcl : i * pl.sz + off ≤ cells.toList.length := by simp; omega
        rcases Nat.lt_or_ge j i with hlt' | hge
        · have : j * pl.sz + pl.sz ≤ i * pl.sz := by rw [← Nat.succ_mul]; exact Nat.mul_le_mul_right _ hlt'
          rw [List.append_assoc, List.getElem?_append_left (by simp; omega), List.getElem?_take_of_lt (by omega)]
          exact h15
        · have : i * pl.sz + pl.sz ≤ j * pl.sz := by rw [← Nat.succ_mul]; exact Nat.mul_le_mul_right _ (by omega)
          rw [List.getElem?_append_right (by simp at hvl ⊢; omega), List.getElem?_drop]
          rw [← h15]
          congr 1
          simp at hvl ⊢
          omega
  · by_cases e' : j = id
    · subst e'; rw [he]; simp
    · rwa [upd_ne e'] at hj

theorem store_run (hi : Inv G h w) (hf : Fresh G h n) {id i off : Nat} {es : List (List AC)} {e : List AC} (he : h id = some (.row es)) (hei : es[i]? = some e) {pl : Place} (hp : G.obj id = some pl)
    {cs : List AC} {v : Value} (hr : F2 (Rep G) cs v.cells.toList) (hl : off + cs.length ≤ e.length) {t : TypeId} (ht : szOk P cs.length t = true) :
    ∃ w', (Instr.storeAt t (.pointer (some ⟨pl.blk, i * pl.sz + off, none⟩)) v).run P w = .ok () w' ∧ Inv G (h.upd id (.row (es.set i (lay e off cs)))) w' ∧ Ext G h n w G (h.upd id (.row (es.set i (lay e off cs)))) n w' := by
  obtain ⟨w', h8, h9⟩ := storeC_run (P := P) hi hf he hei hp hr hl
  have hvl : v.cells.toList.length = cs.length := (F2.length hr).symm
  have hsz : v.cells.size = cs.length := by simpa using hvl
  refine ⟨w', ?_, h9⟩
  simp only [Instr.storeAt, Instr.sureAddr, Sem.run_bind, Sem.run_pure, Result.andThen_ok, storeVar, sizeOf_run ht, hsz, ne_eq, not_true_eq_false, if_false]
  exact h8

end
end Go.Ab
