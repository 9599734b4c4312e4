/- Maps: looked up, made, written. -/
import Derived.Test.YtdbaldohbjnlpaaGreatAb8
import Derived.Test.YtdbaldohbjnlpaaGreatAb5k
set_option linter.unusedVariables false
set_option linter.unusedSimpArgs false
namespace Go.Ab
section
variable {P : Program} {G : Ghost} {h : Heap} {w : World} {n : Nat}

/-- A map's block is written. -/
theorem Inv.setMap (hi : Inv G h w) (hf : Fresh G h n) {id : Nat} {es : List Ent} {ck : Nat} {pl : Place} {en : Array MapEntry} (hid : h id = some (.map es ck)) (hp : G.obj id = some pl) (hb : w.heap[pl.blk]? = some (.map en ck))
    {es' : List Ent} {en' : List MapEntry} {a' : Array MapEntry} (ha' : a'.toList = en') {ck' : Nat} (h1 : F2 (MapE G) es' en') (h2 : ∀ e ∈ es', e.2.2 < ck') (h3 : (es'.map (·.2.2)).Nodup) :
    Inv G (h.upd id (.map es' ck')) { w with heap := w.heap.setIfInBounds pl.blk (.map a' ck') } ∧ Ext G h n w G (h.upd id (.map es' ck')) n { w with heap := w.heap.setIfInBounds pl.blk (.map a' ck') } := by
  have hlt := block_lt hb
  have hother : ∀ b, b ≠ pl.blk → (w.heap.setIfInBounds pl.blk (.map a' ck'))[b]? = w.heap[b]? := fun b hne => by
    rw [Array.getElem?_setIfInBounds_ne (Ne.symm hne)]
  have hself : (w.heap.setIfInBounds pl.blk (.map a' ck'))[pl.blk]? = some (.map a' ck') := by simp [hlt]
  have hne' : ∀ i, h.upd id (.map es' ck') i ≠ none → h i ≠ none := by
    intro i hi'
    by_cases e : i = id
    · subst e; rw [hid]; simp
    · rwa [upd_ne e] at hi'
  have nofx : ∀ o x, ¬ G.fx pl.blk o x := by
    intro o x hx
    have := (hi.exclS id pl o x (by rw [hid]; simp) hp hx).1
    rw [hid] at this; cases this
  refine ⟨⟨fun b o x hx => ?_, hi.cap, fun i ob e => ?_, fun i i' p1 p2 g1 g2 g3 g4 g5 => hi.excl i i' p1 p2 (hne' i g1) (hne' i' g2) g3 g4 g5, fun i p1 o x g1 g2 g3 => ?_⟩, ?_⟩
  · obtain ⟨v, g1, g2⟩ := hi.fx _ _ _ hx
    exact ⟨v, (cell_same (hother b (fun e => nofx o x (e ▸ hx))) o).trans g1, g2⟩
  · by_cases hii : i = id
    · subst hii
      rw [upd_self] at e; cases e
      exact ⟨pl, hp, a', hself, by rw [ha']; exact h1, h2, h3⟩
    · rw [upd_ne hii] at e
      obtain ⟨p1, g1, g2⟩ := hi.obj i ob e
      refine ⟨p1, g1, g2.of_block (.refl G) (hother _ fun hb' => hii ?_)⟩
      exact hi.excl i id p1 pl (by rw [e]; simp) (by rw [hid]; simp) g1 hp hb'
  · by_cases hii : i = id
    · subst hii
      rw [hp] at g2; cases g2
      exact absurd g3 (nofx o x)
    · rw [upd_ne hii] at g1 ⊢
      exact hi.exclS i p1 o x g1 g2 g3
  · refine ⟨.refl G, rfl, rfl, rfl, by simp, fun b hb' hl => hother b fun e => hl ⟨id, pl, by rw [hid]; simp, hp, e.symm⟩, fun b hl => .inr ?_, Nat.le_refl _, fun i hi' => ⟨?_, (hf i hi').2⟩⟩
    · obtain ⟨i, p, g1, g2, g3⟩ := hl
      exact ⟨i, p, hne' i g1, g2, g3⟩
    · have : i ≠ id := fun e => by have := (hf i hi').1; rw [e, hid] at this; cases this
      rw [upd_ne this]; exact (hf i hi').1

/-- A new map. -/
theorem map_state (hi : Inv G h w) (hf : Fresh G h n) {es : List Ent} {ck : Nat} {a : Array MapEntry} (h1 : F2 (MapE G) es a.toList) (h2 : ∀ e ∈ es, e.2.2 < ck) (h3 : (es.map (·.2.2)).Nodup) :
    ∃ G', G'.obj n = some ⟨w.heap.size, 0, 0, 0⟩ ∧ Inv G' (h.upd n (.map es ck)) { w with heap := w.heap.push (.map a ck) } ∧ Ext G h n w G' (h.upd n (.map es ck)) (n + 1) { w with heap := w.heap.push (.map a ck) } := by
  have hs := Same.alloc w (.map a ck)
  refine ⟨G.addObj n ⟨w.heap.size, 0, 0, 0⟩, by simp [Ghost.addObj], ?_, Ext.newObj (.refl G) rfl hs hf (Nat.le_refl _) _⟩
  refine (hi.same hs).addObj (hf n (Nat.le_refl _)).1 (hf n (Nat.le_refl _)).2 (not_live_new hi) ⟨a, by simp, h1, h2, h3⟩ (fun o x hx => ?_)
  obtain ⟨v, h1, _⟩ := hi.fx _ _ _ hx
  have := cell_lt h1
  simp at this

theorem mkmap_run (hi : Inv G h w) (hf : Fresh G h n) {t : TypeId} : ∃ cv w' G', (Instr.makeMap t none).run P w = .ok cv w' ∧ Rep G' (.map n) cv ∧ Inv G' (h.upd n (.map [] 0)) w' ∧ Ext G h n w G' (h.upd n (.map [] 0)) (n + 1) w' := by
  obtain ⟨G', h1, h2, h3⟩ := map_state (a := #[]) (ck := 0) hi hf (es := []) .nil (by simp) (by simp)
  exact ⟨.map (some w.heap.size), _, G', by simp [Instr.makeMap], ⟨_, h1, rfl⟩, h2, h3⟩

theorem born_snoc {es : List Ent} {ck : Nat} {k v : AV} (h2 : ∀ e ∈ es, e.2.2 < ck) (h3 : (es.map (·.2.2)).Nodup) : (∀ e ∈ es ++ [(k, v, ck)], e.2.2 < ck + 1) ∧ ((es ++ [(k, v, ck)]).map (·.2.2)).Nodup := by
  refine ⟨fun e he => ?_, ?_⟩
  · rcases List.mem_append.1 he with he | he
    · have := h2 e he; omega
    · simp at he; subst he; simp
  · rw [List.map_append, List.nodup_append]
    refine ⟨h3, by simp, fun a ha b hb => ?_⟩
    simp at hb; subst hb
    obtain ⟨e, he, rfl⟩ := List.mem_map.1 ha
    have := h2 e he; omega
theorem born_put {es es' : List Ent} {ck : Nat} (he : es'.map (·.2.2) = es.map (·.2.2)) (h2 : ∀ e ∈ es, e.2.2 < ck) (h3 : (es.map (·.2.2)).Nodup) : (∀ e ∈ es', e.2.2 < ck) ∧ (es'.map (·.2.2)).Nodup := by
  refine ⟨fun e h => ?_, by rw [he]; exact h3⟩
  have : e.2.2 ∈ es'.map (·.2.2) := List.mem_map.2 ⟨e, h, rfl⟩
  rw [he] at this
  obtain ⟨e', h4, h5⟩ := List.mem_map.1 this
  rw [← h5]; exact h2 e' h4

theorem modify_toList (en : Array MapEntry) (j : Nat) (g : MapEntry → MapEntry) : (en.modify j g).toList = en.toList.modify j g := by simp
theorem push_toList (en : Array MapEntry) (m : MapEntry) : (en.push m).toList = en.toList ++ [m] := by simp

theorem eqC_comm (a b : AC) : eqC a b = eqC b a := by
  cases a <;> cases b <;> simp only [eqC] <;> rw [Bool.eq_iff_iff] <;> simp only [beq_iff_eq] <;> exact eq_comm
theorem eqL_comm : ∀ (a b : List AC), eqL a b = eqL b a
  | [], [] => rfl
  | x :: a, y :: b => by simp only [eqL, eqC_comm x y, eqL_comm a b]
  | [], _ :: _ => rfl
  | _ :: _, [] => rfl

theorem stays_run {ks : Ksh} {t : TypeId} (hk : kshOk P ks t = true) {k : AV} {vk : Value} (hkv : RepV G k vk) (hc : fitsV ks k = true) {es : List Ent} (hf : keysFit ks es = true) {e : Ent} (he : e ∈ es) {m : MapEntry} (hm : MapE G e m) (heq : eqL k.cells e.1.cells = true) {en : Array MapEntry} {j : Nat} (hj : en[j]? = some m) (w : World) :
    (Instr.keyThatStays (((en[j]?).map (·.key)).getD vk) vk).run P w = .ok vk w := by
  have h1 : fitsV ks e.1 = true := List.all_eq_true.1 hf e he
  have := bits_run hk hm.key.toV hkv h1 hc (by rw [eqL_comm]; exact heq)
  simp [Instr.keyThatStays, hj, this]

theorem mupd_run (hi : Inv G h w) (hf : Fresh G h n) {ks : Ksh} {t kt et : TypeId} (ht : mapTy P t = some (kt, et)) (hk : kshOk P ks kt = true) {id : Nat} {es : List Ent} {ck : Nat} (hid : h id = some (.map es ck)) {vx vk vv : Value} {k v : AV}
    (hx : Rep G (.map id) vx) (hkv : RepV G k vk) (hvv : RepV G v vv) (hc1 : fitsV ks k = true) (hc2 : avOk1 v = true) (hc3 : keysFit ks es = true) :
    ∃ w', (Instr.mapUpdate t vx vk vv).run P w = .ok () w' ∧ Inv G (h.upd id (mupdM k v es ck)) w' ∧ Ext G h n w G (h.upd id (mupdM k v es ck)) n w' := by
  obtain ⟨pl, p1, rfl⟩ := hx
  obtain ⟨pl', p2, en, p3, p4, p5, p6⟩ := hi.obj _ _ hid
  rw [p1] at p2; cases p2
  have g1 := keyOk_run (w := w) hk false hkv hc1
  have g2 := findKey_run (w := w) hk hkv hc1 p4 hc3
  have g3 := findIx_some (k := k) (f := fun _ => v) es en.toList 0 p4
  have g0 := MapKept.run_getObj_map (P := P) p3
  obtain ⟨kE, kne⟩ := avOk1_E (fitsV_one hc1) hkv
  obtain ⟨vE, vne⟩ := avOk1_E hc2 hvv
  unfold mupdM
  simp only [Instr.mapUpdate, Sem.run_bind, run_underlying (mapTy_some ht), Result.andThen_ok, g0, g1, g2]
  split at g3
  · rename_i hn
    rw [hn, g3]
    simp only
    obtain ⟨q1, q2⟩ := born_snoc (k := k) (v := v) p5 p6
    obtain ⟨r1, r2⟩ := hi.setMap hf hid p1 p3 (a' := en.push { key := vk, val := vv, born := ck }) (push_toList _ _) (p4.append (.cons ⟨kE, kne, vE, vne, rfl⟩ .nil)) q1 q2
    exact ⟨_, by rw [MapKept.run_setObj_map _ p3], r1, r2⟩
  · rename_i u b hn
    obtain ⟨j, m, e, s1, s2, s3, s4, s5, s6, s7, s8⟩ := g3
    rw [hn, s1]
    simp only [Nat.zero_add]
    have hm : en[j]? = some m := by simpa using s2
    have hstay := stays_run (en := en) hk hkv hc1 hc3 s6.2 s3 s6.1 hm
    obtain ⟨q1, q2⟩ := born_put (putM_born (k := k) (f := fun _ => v) es) p5 p6
    obtain ⟨r1, r2⟩ := hi.setMap hf hid p1 p3 (a' := en.modify j fun e => { e with key := vk, val := vv }) (modify_toList _ _ _) (s7 _ ⟨kE, kne, vE, vne, s5⟩) q1 q2
    refine ⟨_, ?_, r1, r2⟩
    simp only [Sem.run_bind, hstay, Result.andThen_ok]
    rw [MapKept.run_setObj_map _ p3]

theorem mdel_run (hi : Inv G h w) (hf : Fresh G h n) {ks : Ksh} {t kt et ty u : TypeId} (ht : mapTy P t = some (kt, et)) (hk : kshOk P ks kt = true) {id : Nat} {es : List Ent} {ck : Nat} (hid : h id = some (.map es ck)) {vx vk : Value} {k : AV}
    (hx : Rep G (.map id) vx) (hkv : RepV G k vk) (hc1 : fitsV ks k = true) (hc3 : keysFit ks es = true) {ts : List TypeId} :
    ∃ w', (Builtin.delete_ (t :: ts).toArray ty #[vx, vk]).run P w = .ok (.tuple #[]) w' ∧ Inv G (h.upd id (.map (delM k.cells es) ck)) w' ∧ Ext G h n w G (h.upd id (.map (delM k.cells es) ck)) n w' := by
  obtain ⟨pl, p1, rfl⟩ := hx
  obtain ⟨pl', p2, en, p3, p4, p5, p6⟩ := hi.obj _ _ hid
  rw [p1] at p2; cases p2
  have g1 := keyOk_run (w := w) hk en.isEmpty hkv hc1
  have g2 := findKey_run (w := w) hk hkv hc1 p4 hc3
  have g3 := findIx_some (k := k) (f := fun v => v) es en.toList 0 p4
  have g0 := MapKept.run_getObj_map (P := P) p3
  have b1 : ∀ e ∈ delM k.cells es, e.2.2 < ck := fun e he => p5 e ((delM_sub es).subset he)
  have b2 : ((delM k.cells es).map (·.2.2)).Nodup := List.Nodup.sublist ((delM_sub es).map _) p6
  simp only [Builtin.delete_, List.getElem?_toArray, List.getElem?_cons_zero, List.getElem?_cons_succ, Sem.run_bind, run_underlying (mapTy_some ht), Result.andThen_ok, g0, g1, g2]
  split at g3
  · rename_i hn
    rw [g3]
    have hd : ∀ es : List Ent, findM k.cells es = none → delM k.cells es = es := by
      intro es
      induction es with
      | nil => intro _; rfl
      | cons e es ih =>
        obtain ⟨a, v, b⟩ := e
        intro h0
        simp only [findM] at h0
        simp only [delM]
        cases he : eqL k.cells a.cells
        · rw [he] at h0; simp only [cond_false] at h0 ⊢; rw [ih h0]
        · rw [he] at h0; cases h0
    rw [hd es hn]
    obtain ⟨r1, r2⟩ := hi.setMap hf hid p1 p3 (a' := en) rfl p4 p5 p6
    exact ⟨_, by simp only [Sem.run_bind, MapKept.run_setObj_map _ p3, Result.andThen_ok, Sem.run_pure], r1, r2⟩
  · rename_i u b hn
    obtain ⟨j, m, e, s1, s2, s3, s4, s5, s6, s7, s8⟩ := g3
    rw [Nat.zero_add] at s1
    rw [s1]
    have hj : j < en.size := by
      have := (List.getElem?_eq_some_iff.1 s2).1
      simpa using this
    obtain ⟨r1, r2⟩ := hi.setMap hf hid p1 p3 (a' := en.eraseIdxIfInBounds j) (by simp [Array.eraseIdxIfInBounds, hj]) s8 b1 b2
    exact ⟨_, by simp only [Sem.run_bind, MapKept.run_setObj_map _ p3, Result.andThen_ok, Sem.run_pure], r1, r2⟩

theorem mentry_run (hi : Inv G h w) (hf : Fresh G h n) {ks : Ksh} {zero : AV} {t kt et : TypeId} (ht : mapTy P t = some (kt, et)) (hk : kshOk P ks kt = true) (hz : zeroV P zero et = true) {id : Nat} {es : List Ent} {ck : Nat} (hid : h id = some (.map es ck)) {vx vk : Value} {k : AV}
    (hx : Rep G (.map id) vx) (hkv : RepV G k vk) (hc1 : fitsV ks k = true) (hc3 : keysFit ks es = true) :
    match findM k.cells es with
    | some (v, b) => ∃ cv w', (Instr.mapEntry t vx vk).run P w = .ok cv w' ∧ RepV G (.tup [v, int64 b]) cv ∧ Inv G (h.upd id (.map (putM k (fun v => v) es) ck)) w' ∧ Ext G h n w G (h.upd id (.map (putM k (fun v => v) es) ck)) n w'
    | none => ∃ cv w', (Instr.mapEntry t vx vk).run P w = .ok cv w' ∧ RepV G (.tup [zero, int64 ck]) cv ∧ Inv G (h.upd id (.map (es ++ [(k, zero, ck)]) (ck + 1))) w' ∧ Ext G h n w G (h.upd id (.map (es ++ [(k, zero, ck)]) (ck + 1))) n w' := by
  obtain ⟨pl, p1, rfl⟩ := hx
  obtain ⟨pl', p2, en, p3, p4, p5, p6⟩ := hi.obj _ _ hid
  rw [p1] at p2; cases p2
  have g1 := keyOk_run (w := w) hk false hkv hc1
  have g2 := findKey_run (w := w) hk hkv hc1 p4 hc3
  have g3 := findIx_some (k := k) (f := fun v => v) es en.toList 0 p4
  have g0 := MapKept.run_getObj_map (P := P) p3
  obtain ⟨kE, kne⟩ := avOk1_E (fitsV_one hc1) hkv
  split at g3
  · rename_i hn
    rw [hn]
    obtain ⟨z, hz1, hz2⟩ := zeroV_run (P := P) (G := G) (w := w) hz
    obtain ⟨zE, zne⟩ := avOk1_E (zeroV_one hz) hz2
    obtain ⟨q1, q2⟩ := born_snoc (k := k) (v := zero) p5 p6
    obtain ⟨r1, r2⟩ := hi.setMap hf hid p1 p3 (a' := en.push { key := vk, val := z, born := ck }) (push_toList _ _) (p4.append (.cons ⟨kE, kne, zE, zne, rfl⟩ .nil)) q1 q2
    refine ⟨.tuple #[z, goInt ck], _, ?_, ⟨_, rfl, .cons zE (.cons rfl .nil)⟩, r1, r2⟩
    simp only [Instr.mapEntry, Sem.run_bind, run_underlying (mapTy_some ht), Result.andThen_ok, g0, g1, g2, g3, hz1, MapKept.run_setObj_map _ p3, Sem.run_pure]
  · rename_i u b hn
    obtain ⟨j, m, e, s1, s2, s3, s4, s5, s6, s7, s8⟩ := g3
    rw [hn]
    have hm : en[j]? = some m := by simpa using s2
    have hstay := stays_run (en := en) hk hkv hc1 hc3 s6.2 s3 s6.1 hm
    have vE : RepE G u m.val := by rw [← s4]; exact s3.val
    have vne : u ≠ .any := by rw [← s4]; exact s3.vne
    obtain ⟨q1, q2⟩ := born_put (putM_born (k := k) (f := fun v => v) es) p5 p6
    obtain ⟨r1, r2⟩ := hi.setMap hf hid p1 p3 (a' := en.modify j fun e => { e with key := vk }) (modify_toList _ _ _) (s7 _ ⟨kE, kne, vE, vne, s5⟩) q1 q2
    refine ⟨.tuple #[m.val, goInt m.born], _, ?_, ⟨_, rfl, .cons vE (.cons (by rw [s5]; rfl) .nil)⟩, r1, r2⟩
    simp only [Instr.mapEntry, Sem.run_bind, run_underlying (mapTy_some ht), Result.andThen_ok, g0, g1, g2, s1, Nat.zero_add, hstay, MapKept.run_setObj_map _ p3, Sem.run_pure]
    simp [hm]

theorem bornM_run {v : AV} {vv : Value} (hv : RepE G v vv) (hvn : v ≠ .any) {b : Nat} : ∀ {es es' : List Ent} {en : List MapEntry}, F2 (MapE G) es en → bornM v b es = some es' →
    ∃ j, en.findIdx? (fun e => (e.born : Int) == (b : Int)) = some j ∧ F2 (MapE G) es' (en.modify j fun e => { e with val := vv })
  | [], _, _, _, h => by cases h
  | (a, u, b') :: es, es', m :: en, .cons hm hr, h => by
    simp only [bornM] at h
    have hb := hm.born
    simp only at hb
    cases hbb : (b' == b) with
    | true =>
      rw [hbb] at h; cases h
      have : b' = b := by simpa using hbb
      refine ⟨0, by simp [List.findIdx?_cons, hb, this], ?_⟩
      simpa using F2.cons (R := MapE G) (a := (a, v, b')) (b := { m with val := vv }) ⟨hm.key, hm.kne, hv, hvn, hm.born⟩ hr
    | false =>
      rw [hbb] at h
      simp only [cond_false] at h
      split at h
      · rename_i r hr'
        cases h
        obtain ⟨j, h1, h2⟩ := bornM_run hv hvn hr hr'
        have hne : ¬ b' = b := by simpa using hbb
        refine ⟨j + 1, ?_, by simpa using F2.cons hm h2⟩
        have : ¬ ((b' : Int) = (b : Int)) := by omega
        simp [List.findIdx?_cons, hb, this, h1]
      · cases h

theorem estore_run (hi : Inv G h w) (hf : Fresh G h n) {t : TypeId} {id : Nat} {es es' : List Ent} {ck : Nat} (hid : h id = some (.map es ck)) {vx vv : Value} {v : AV} {kd : IntKind} {b : Int}
    (hx : Rep G (.map id) vx) (hvv : RepV G v vv) (hb0 : 0 ≤ b) (hc : avOk1 v = true) (hb : bornM v b.toNat es = some es') :
    ∃ w', (Instr.entryStore t vx (.int kd b) vv).run P w = .ok () w' ∧ Inv G (h.upd id (.map es' ck)) w' ∧ Ext G h n w G (h.upd id (.map es' ck)) n w' := by
  obtain ⟨pl, p1, rfl⟩ := hx
  obtain ⟨pl', p2, en, p3, p4, p5, p6⟩ := hi.obj _ _ hid
  rw [p1] at p2; cases p2
  obtain ⟨vE, vne⟩ := avOk1_E hc hvv
  have g0 := MapKept.run_getObj_map (P := P) p3
  obtain ⟨j, s1, s2⟩ := bornM_run vE vne p4 hb
  obtain ⟨q1, q2⟩ := born_put (bornM_born hb) p5 p6
  obtain ⟨r1, r2⟩ := hi.setMap hf hid p1 p3 (a' := en.modify j fun e => { e with val := vv }) (modify_toList _ _ _) s2 q1 q2
  refine ⟨_, ?_, r1, r2⟩
  have hbb : ((b.toNat : Nat) : Int) = b := by omega
  rw [hbb] at s1
  have s1' : en.findIdx? (fun e => (e.born : Int) == b) = some j := by
    rw [show en = en.toList.toArray by simp, List.findIdx?_toArray]; exact s1
  simp only [Instr.entryStore, Sem.run_bind, g0, Result.andThen_ok, asInt, asIntOf, Sem.run_pure, s1', MapKept.run_setObj_map _ p3]

theorem mclone_run (hi : Inv G h w) (hf : Fresh G h n) {id : Nat} {es : List Ent} {ck : Nat} (hid : h id = some (.map es ck)) {t : TypeId} {vx : Value} (hx : Rep G (.ifm t id) vx) :
    ∃ cv w' G', (Extern.MapsClone.clone #[vx]).run P w = .ok cv w' ∧ Rep G' (.ifm t n) cv ∧ Inv G' (h.upd n (.map es ck)) w' ∧ Ext G h n w G' (h.upd n (.map es ck)) (n + 1) w' := by
  obtain ⟨pl, p1, rfl⟩ := hx
  obtain ⟨pl', p2, en, p3, p4, p5, p6⟩ := hi.obj _ _ hid
  rw [p1] at p2; cases p2
  obtain ⟨G', h1, h2, h3⟩ := map_state hi hf p4 p5 p6
  have g0 := MapKept.run_getObj_map (P := P) p3
  refine ⟨.iface t (.map (some w.heap.size)), _, G', ?_, ⟨_, h1, rfl⟩, h2, h3⟩
  have e : Extern.MapsClone.clone #[.iface t (.map (some pl.blk))] = (getObj pl.blk >>= fun o => match o with
      | .map entries clock => (newObj (.map entries clock) >>= fun n => pure (.iface t (.map (some n))))
      | _ => stuck "maps.clone: a map expected") := rfl
  rw [e]
  simp only [Sem.run_bind, g0, Result.andThen_ok, run_newObj, Sem.run_pure]

end
end Go.Ab
