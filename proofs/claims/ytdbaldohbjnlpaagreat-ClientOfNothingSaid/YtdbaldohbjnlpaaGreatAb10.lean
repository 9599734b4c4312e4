/- Operations that make or turn objects: all. Calls of functions. -/
import Derived.Test.YtdbaldohbjnlpaaGreatAb9b
import Derived.Test.YtdbaldohbjnlpaaGreatAb7m
import Derived.Laws.Externs
set_option linter.unusedVariables false
set_option linter.unusedSimpArgs false
namespace Go.Ab
section
variable {P : Program} {G : Ghost} {h : Heap} {w : World} {nt : Nat} {env : Env} {a : Act} {n : Nat}

/-- An operation's end: a value, or none. -/
def Ends (cv : Value) : Next → Prop
  | .value v => v = cv
  | .skip => cv = undef
  | _ => False

theorem box_state (hi : Inv G h w) (hf : Fresh G h n) {cs : List AC} {cells : Array Value} {t : TypeId} (hr : F2 (Rep G) cs cells.toList) :
    ∃ G', Rep G' (.ptr n 0 0) (.pointer (some ⟨w.heap.size, 0, none⟩)) ∧ Inv G' (h.upd n (.row [cs])) { w with heap := w.heap.push (.cells cells t) } ∧
      Ext G h n w G' (h.upd n (.row [cs])) (n + 1) { w with heap := w.heap.push (.cells cells t) } := by
  have hs := Same.alloc w (.cells cells t)
  have hl := F2.length hr
  refine ⟨G.addObj n ⟨w.heap.size, cs.length, 1, 1⟩, ⟨_, by simp [Ghost.addObj]; rfl, by simp⟩, ?_, Ext.newObj (.refl G) rfl hs hf (Nat.le_refl _) _⟩
  refine (hi.same hs).addObj (hf n (Nat.le_refl _)).1 (hf n (Nat.le_refl _)).2 (not_live_new hi) ⟨rfl, Nat.le_refl _, cells, t, (0, 0), by simp, by simp at hl ⊢; omega, fun o _ => by simp, fun i e he => ?_⟩ (fun o x hx => ?_)
  · cases i with
    | zero =>
      simp at he; subst he
      exact ⟨rfl, fun j x hx => by
        obtain ⟨v, h1, h2⟩ := told_get hr hx
        exact ⟨v, by simpa using h1, h2⟩⟩
    | succ i => simp at he
  · obtain ⟨v, h1, _⟩ := hi.fx _ _ _ hx
    have := cell_lt h1
    simp at this

theorem cloneFn_some {g : Nat} (hg : cloneFn P g = true) : ∃ fn, P.funcs[g]? = some fn ∧ (fn.name == "runtime.NumGoroutine") = false ∧ fn.body.isNone = true ∧ Extern.findNext fn = none ∧ Extern.find fn = some Extern.MapsClone.clone := by
  unfold cloneFn at hg
  split at hg
  · rename_i fn hfn
    simp only [Bool.and_eq_true, beq_iff_eq] at hg
    obtain ⟨⟨h1, h2⟩, h3⟩ := hg
    refine ⟨fn, hfn, by rw [h2]; rfl, h1, ?_, ?_⟩
    · unfold Extern.findNext
      rw [h2, h3]
      rfl
    · unfold Extern.find
      rw [h2]
      rfl
  · cases hg

set_option maxHeartbeats 4000000 in
theorem ch_run {x : AOp} (hi : Inv G h w) (hf : Fresh G h n) (he : EnvRep G nt env a) {o : Oper} (hk : opOk P x o.op = true) {c : Prop} {v : AV} {h' : Heap} {n' : Nat} (hv : ch x env h n = some (c, v, h', n')) (hc : c) :
    ∃ nx cv w' G', (execOp a.eval o).run P w = .ok nx w' ∧ Ends cv nx ∧ RepV G' v cv ∧ Inv G' h' w' ∧ Ext G h n w G' h' n' w' := by
  obtain ⟨dst, op, ty, pos, af, gd⟩ := o
  simp only at hk
  cases x with
  | asg x =>
    cases hv
    simp only [opOk] at hk
    split at hk
    · exact ⟨_, _, w, G, rfl, rfl, opd_rep he hk, hi, Ext.refl w hf⟩
    · exact ⟨_, _, w, G, rfl, rfl, opd_rep he hk, hi, Ext.refl w hf⟩
    · cases hk
  | box x =>
    simp only [opOk] at hk
    split at hk
    · rename_i t y
      have h1 := opd_rep he hk
      simp only [ch] at hv
      split at hv
      · rename_i u hu
        cases hv
        rw [hu] at h1
        obtain ⟨G', h2, h3, h4⟩ := box_state (cs := [u]) (t := t) hi hf (RepE.cells (x := .c u) h1 (by simp))
        exact ⟨.value (.pointer (some ⟨w.heap.size, 0, none⟩)), _, _, G', by simp only [execOp, Instr.box, newVar, newRow, Sem.run_bind, run_newObj, Result.andThen_ok, Sem.run_pure], rfl, h2, h3, h4⟩
      · rename_i cs hu
        cases hv
        rw [hu] at h1
        obtain ⟨G', h2, h3, h4⟩ := box_state (cs := cs) (t := t) hi hf (RepE.cells (x := .agg cs) h1 (by simp))
        exact ⟨.value (.pointer (some ⟨w.heap.size, 0, none⟩)), _, _, G', by simp only [execOp, Instr.box, newVar, newRow, Sem.run_bind, run_newObj, Result.andThen_ok, Sem.run_pure], rfl, h2, h3, h4⟩
      · cases hv
    · cases hk
  | alloc zero =>
    cases hv
    simp only [opOk] at hk
    split at hk
    · rename_i t
      obtain ⟨i, z, h1, h2, h3⟩ := zeroOk_some hk
      obtain ⟨G', h4, h5, h6⟩ := box_state (t := t) hi hf (h3 G)
      refine ⟨.value (.pointer (some ⟨w.heap.size, 0, none⟩)), _, _, G', ?_, rfl, h4, h5, h6⟩
      simp only [execOp, Instr.alloc, Sem.run_bind, zeroValue, typeInfo, h1, h2, run_program, Result.andThen_ok, Sem.run_pure, newVar, newRow, run_newObj]
    · cases hk
  | app sz bytes s x =>
    simp only [opOk] at hk
    split at hk
    · split at hk
      · rename_i s' x' t u hcall
        simp only [Bool.and_eq_true] at hk
        obtain ⟨⟨⟨k1, k2⟩, k3⟩, k4⟩ := hk
        split at k4
        · rename_i e hg
          simp only [Bool.and_eq_true, decide_eq_true_eq] at k4
          obtain ⟨⟨⟨⟨k5, k6⟩, k7⟩, k8⟩, k9⟩ := k4
          obtain ⟨z, hz⟩ := Option.isSome_iff_exists.1 k9
          simp only [ch] at hv
          split at hv
          · rename_i xx hx
            split at hv
            · rename_i p ys hvw
              split at hv
              · cases hv
                rename_i sz' es cc hs
                obtain ⟨rfl, hc2, hc3⟩ := hc
                obtain ⟨cs, hr⟩ := resolve_builtin hcall a.eval ty
                obtain ⟨cv, w', G', r1, r2, r3, r4⟩ := app_run (P := P) (ty := ty) hi hf (sliceElem_some hg) k5 k6 k7 k8 k3 hz (opd_cell he k1 hs) (opd_cell he k2 hx) hvw hc2 hc3
                refine ⟨.value cv, cv, w', G', ?_, rfl, r2, r3, r4⟩
                simp only [execOp, hr, invoke, builtin, Sem.run_bind, Sem.run_pure, Result.andThen_ok]
                simp [r1]
              · rename_i id hs
                split at hv
                · rename_i es hes
                  cases hv
                  obtain ⟨hc2, hc3, hc4, hc5⟩ := hc
                  obtain ⟨cs, hr⟩ := resolve_builtin hcall a.eval ty
                  obtain ⟨cv, w', G', r1, r2, r3, r4⟩ := appM_run (P := P) (ty := ty) hi hf (sliceElem_some hg) k5 k6 k7 k8 k3 hz (opd_cell he k1 hs) hes hc3 hc4 (opd_cell he k2 hx) hvw hc2 hc5
                  refine ⟨.value cv, cv, w', G', ?_, rfl, r2, r3, r4⟩
                  simp only [execOp, hr, invoke, builtin, Sem.run_bind, Sem.run_pure, Result.andThen_ok]
                  simp [r1]
                · cases hv
              · cases hv
            · cases hv
          · cases hv
        · cases k4
      · cases hk
    · cases hk
  | store sz x y =>
    simp only [opOk] at hk
    split at hk
    · rename_i t x' y'
      simp only [Bool.and_eq_true] at hk
      obtain ⟨⟨k1, k2⟩, k3⟩ := hk
      simp only [ch] at hv
      split at hv
      · rename_i id i off hx
        obtain ⟨pl, hp, hxv⟩ := opd_cell he k1 hx
        split at hv
        · rename_i es hes
          split at hv
          · rename_i e hei
            split at hv
            · rename_i u hu
              cases hv
              obtain ⟨rfl, hc2⟩ := hc
              have h1 := opd_rep he k2
              rw [hu] at h1
              have h2 := RepE.cells (x := .c u) h1 (by simp)
              obtain ⟨w', r1, r2, r3⟩ := store_run (P := P) hi hf hes hei hp (cs := [u]) h2 (Nat.succ_le_of_lt hc2) k3
              have hl : lay e off [u] = e.set off u := by
                unfold lay
                rw [List.set_eq_take_append_cons_drop]
                simp [hc2]
              rw [hl] at r2 r3
              refine ⟨.skip, undef, w', G, ?_, rfl, ⟨#[], rfl, .nil⟩, r2, r3⟩
              simp only [execOp, Sem.run_bind, hxv, r1, Result.andThen_ok, Sem.run_pure]
            · rename_i us hu
              cases hv
              obtain ⟨rfl, hc2⟩ := hc
              have h1 := opd_rep he k2
              rw [hu] at h1
              have h2 := RepE.cells (x := .agg us) h1 (by simp)
              obtain ⟨w', r1, r2, r3⟩ := store_run (P := P) hi hf hes hei hp (cs := us) h2 hc2 k3
              refine ⟨.skip, undef, w', G, ?_, rfl, ⟨#[], rfl, .nil⟩, r2, r3⟩
              simp only [execOp, Sem.run_bind, hxv, r1, Result.andThen_ok, Sem.run_pure]
            · cases hv
          · cases hv
        · cases hv
      · cases hv
    · cases hk
  | appM sz bytes s x =>
    simp only [opOk] at hk
    split at hk
    · rename_i c0
      split at hk
      · rename_i s' x' t u hcall
        simp only [Bool.and_eq_true] at hk
        obtain ⟨⟨⟨k1, k2⟩, k3⟩, k4⟩ := hk
        split at k4
        · rename_i e hg
          simp only [Bool.and_eq_true, decide_eq_true_eq] at k4
          obtain ⟨⟨⟨⟨k5, k6⟩, k7⟩, k8⟩, k9⟩ := k4
          obtain ⟨z, hz⟩ := Option.isSome_iff_exists.1 k9
          obtain ⟨cs, hr⟩ := resolve_builtin hcall a.eval ty
          have fin : ∀ {v h' n'}, (∃ cv w' G', (Builtin.append_ #[t, u] ty #[a.eval s', a.eval x']).run P w = .ok cv w' ∧ RepV G' v cv ∧ Inv G' h' w' ∧ Ext G h n w G' h' n' w') →
              ∃ nx cv w' G', (execOp a.eval ⟨dst, .call c0, ty, pos, af, gd⟩).run P w = .ok nx w' ∧ Ends cv nx ∧ RepV G' v cv ∧ Inv G' h' w' ∧ Ext G h n w G' h' n' w' := by
            rintro v h' n' ⟨cv, w', G', r1, r2, r3, r4⟩
            refine ⟨.value cv, cv, w', G', ?_, rfl, r2, r3, r4⟩
            simp only [execOp, hr, invoke, builtin, Sem.run_bind, Sem.run_pure, Result.andThen_ok]
            simp [r1]
          simp only [ch] at hv
          split at hv
          · rename_i xx hx
            split at hv
            · rename_i p ys hvw
              split at hv
              · rename_i id hs
                split at hv
                · rename_i es hes
                  cases hv
                  obtain ⟨hc2, hc3, hc4, hc5⟩ := hc
                  exact fin (appM_run (P := P) (ty := ty) hi hf (sliceElem_some hg) k5 k6 k7 k8 k3 hz (opd_cell he k1 hs) hes hc3 hc4 (opd_cell he k2 hx) hvw hc2 hc5)
                · cases hv
              · rename_i sz' es hs
                cases hv
                obtain ⟨rfl, hc2, hc3⟩ := hc
                have hS := opd_cell he k1 hs
                have hfull : ∃ ad, a.eval s' = .slice ad es.length es.length := by obtain ⟨rfl, h1⟩ := hS; exact ⟨_, h1⟩
                exact fin (appN_run (P := P) (ty := ty) hi hf (sliceElem_some hg) k5 k6 k7 k3 hz hS rfl rfl hfull (opd_cell he k2 hx) hvw hc2 hc3)
              · rename_i sz' es hs
                cases hv
                obtain ⟨rfl, hc2, hc3⟩ := hc
                have hS := opd_cell he k1 hs
                have hfull : ∃ ad, a.eval s' = .slice ad es.length es.length := by
                  rcases hS with ⟨b, o, h1, _⟩ | ⟨rfl, b, h1⟩
                  · exact ⟨_, h1⟩
                  · exact ⟨_, h1⟩
                exact fin (appN_run (P := P) (ty := ty) hi hf (sliceElem_some hg) k5 k6 k7 k3 hz hS rfl rfl hfull (opd_cell he k2 hx) hvw hc2 hc3)
              · rename_i id lo m hs
                split at hv
                · rename_i q es hes
                  cases hv
                  obtain ⟨hq, hc2, hc3⟩ := hc
                  have hS := opd_cell he k1 hs
                  have hl : es.length = m := by
                    simp only [viewV] at hes
                    split at hes
                    · cases hes
                      have := hq.1
                      rw [List.length_take, List.length_drop]; omega
                    · cases hes
                  have hfull : ∃ ad, a.eval s' = .slice ad es.length es.length := by
                    rw [hl]
                    obtain ⟨pl, _, ⟨cap, h1, _, h2⟩ | ⟨rfl, ad, cap, h1, h2⟩⟩ := hS
                    · rw [h2 rfl] at h1; exact ⟨_, h1⟩
                    · rw [h2 rfl] at h1; exact ⟨_, h1⟩
                  exact fin (appN_run (P := P) (ty := ty) hi hf (sliceElem_some hg) k5 k6 k7 k3 hz hS hes hq hfull (opd_cell he k2 hx) hvw hc2 hc3)
                · cases hv
              · cases hv
            · cases hv
          · cases hv
        · cases k4
      · cases hk
    · cases hk
  | mksl m sz bytes zero l c =>
    simp only [opOk] at hk
    split at hk
    · rename_i t l' c'
      simp only [Bool.and_eq_true] at hk
      obtain ⟨⟨k1, k2⟩, k3⟩ := hk
      split at k3
      · rename_i e hg
        simp only [Bool.and_eq_true, decide_eq_true_eq] at k3
        obtain ⟨⟨⟨⟨k4, k5⟩, k6⟩, k7⟩, k8⟩ := k3
        split at k8
        · rename_i z hz
          simp only [ch] at hv
          split at hv <;> cases hv
          rename_i kl x kc y hl hc'
          have e1 := opd_cell he k1 hl
          have e2 := opd_cell he k2 hc'
          simp only [Rep] at e1 e2
          obtain ⟨cv, w', G', r1, r2, r3, r4⟩ := mksl_run (P := P) hi hf (sliceElem_some hg) k4 k5 k6 k7 hz k8 (kl := kl) (kc := kc) hc.1 hc.2.1 hc.2.2 m
          refine ⟨.value cv, cv, w', G', ?_, rfl, r2, r3, r4⟩
          simp only [execOp, e1, e2, Sem.run_bind, r1, Result.andThen_ok, Sem.run_pure]
        · cases k8
      · cases k3
    · cases hk
  | cpy sz x y =>
    simp only [opOk] at hk
    split at hk
    · split at hk
      · rename_i x' y' t ts hcall
        simp only [Bool.and_eq_true] at hk
        obtain ⟨⟨k1, k2⟩, k3⟩ := hk
        split at k3
        · rename_i e hg
          simp only [Bool.and_eq_true, decide_eq_true_eq] at k3
          simp only [ch] at hv
          split at hv
          · rename_i yy hy
            split at hv
            · rename_i p ys hvw
              split at hv
              · rename_i id i off sz' m hx
                split at hv
                · rename_i es hes
                  split at hv
                  · rename_i el hel
                    cases hv
                    obtain ⟨hc1, rfl, hc3⟩ := hc
                    obtain ⟨cs, hr⟩ := resolve_builtin hcall a.eval ty
                    obtain ⟨w', r1, r2, r3⟩ := cpy_run (P := P) (ty := ty) (ts := ts) hi hf (sliceElem_some hg) k3.1 k3.2 (opd_cell he k2 hy) hvw hc1 (opd_cell he k1 hx) hes hel hc3
                    refine ⟨.value (.int .i64 (min ys.length m : Nat)), _, w', G, ?_, rfl, rfl, r2, r3⟩
                    simp only [execOp, hr, invoke, builtin, Sem.run_bind, Sem.run_pure, Result.andThen_ok]
                    simp only [List.map_cons, List.map_nil]
                    rw [r1]
                    rfl
                  · cases hv
                · cases hv
              · cases hv
            · cases hv
          · cases hv
        · cases k3
      · cases hk
    · cases hk
  | mkmap =>
    cases hv
    simp only [opOk] at hk
    split at hk
    · rename_i t r
      have hr : r = none := by simpa using hk
      subst hr
      obtain ⟨cv, w', G', r1, r2, r3, r4⟩ := mkmap_run (P := P) hi hf (t := t)
      exact ⟨.value cv, cv, w', G', by simp only [execOp, Option.map_none, Sem.run_bind, r1, Result.andThen_ok, Sem.run_pure], rfl, r2, r3, r4⟩
    · cases hk
  | mupd ks x k v =>
    have key : ∀ t x' k' v', opdOk x' x = true → opdOk k' k = true → opdOk v' v = true → (match mapTy P t with | some (kt, _) => kshOk P ks kt | none => false) = true →
        ∃ w', (Instr.mapUpdate t (a.eval x') (a.eval k') (a.eval v')).run P w = .ok () w' ∧ n' = n ∧ (∃ cv, cv = undef ∧ RepV G (.tup []) cv) ∧ Inv G h' w' ∧ Ext G h n w G h' n' w' := by
      intro t x' k' v' k1 k2 k3 k4
      split at k4
      · rename_i kt et hm
        simp only [ch] at hv
        split at hv
        · rename_i id hx
          split at hv
          · rename_i es ck hid
            cases hv
            obtain ⟨w', r1, r2, r3⟩ := mupd_run (P := P) hi hf hm k4 hid (opd_cell he k1 hx) (opd_rep he k2) (opd_rep he k3) hc.1 hc.2.1 hc.2.2
            exact ⟨w', r1, rfl, ⟨_, rfl, #[], rfl, .nil⟩, r2, r3⟩
          · cases hv
        · cases hv
      · cases k4
    have hvt : v = v := rfl
    have hres : ∀ {cc vv hh nn}, ch (.mupd ks x k v) env h n = some (cc, vv, hh, nn) → vv = .tup [] := by
      intro cc vv hh nn hq
      simp only [ch] at hq
      split at hq
      · split at hq <;> cases hq; rfl
      · cases hq
    simp only [opOk] at hk
    split at hk
    · rename_i t x' k' v'
      simp only [Bool.and_eq_true] at hk
      obtain ⟨⟨⟨k1, k2⟩, k3⟩, k4⟩ := hk
      obtain ⟨w', r1, r2, ⟨cv, rfl, r3⟩, r4, r5⟩ := key t x' k' v' k1 k2 k3 k4
      rw [hres hv]
      exact ⟨.skip, undef, w', G, by simp only [execOp, Sem.run_bind, r1, Result.andThen_ok, Sem.run_pure], rfl, r3, r4, r5⟩
    · rename_i t x' k' v'
      simp only [Bool.and_eq_true] at hk
      obtain ⟨⟨⟨k1, k2⟩, k3⟩, k4⟩ := hk
      obtain ⟨w', r1, r2, ⟨cv, rfl, r3⟩, r4, r5⟩ := key t x' k' v' k1 k2 k3 k4
      rw [hres hv]
      exact ⟨.skip, undef, w', G, by simp only [execOp, Sem.run_bind, r1, Result.andThen_ok, Sem.run_pure], rfl, r3, r4, r5⟩
    · cases hk
  | mdel ks x k =>
    simp only [opOk] at hk
    split at hk
    · split at hk
      · rename_i x' k' t ts hcall
        simp only [Bool.and_eq_true] at hk
        obtain ⟨⟨k1, k2⟩, k3⟩ := hk
        obtain ⟨cs, hr⟩ := resolve_builtin hcall a.eval ty
        split at k3
        · rename_i kt et hm
          simp only [ch] at hv
          split at hv
          · rename_i hx
            cases hv
            have e1 := opd_cell he k1 hx
            simp only [Rep] at e1
            have hkk := keyOk_run (P := P) (w := w) k3 true (opd_rep he k2) hc
            refine ⟨.value (.tuple #[]), undef, w, G, ?_, rfl, ⟨#[], rfl, .nil⟩, hi, Ext.refl w hf⟩
            simp only [execOp, hr, invoke, builtin, Sem.run_bind, Sem.run_pure, Result.andThen_ok, List.map_cons, List.map_nil, Builtin.delete_, List.getElem?_toArray, List.getElem?_cons_zero, List.getElem?_cons_succ, run_underlying (mapTy_some hm), e1, hkk]
          · rename_i id hx
            split at hv
            · rename_i es ck hid
              cases hv
              obtain ⟨w', r1, r2, r3⟩ := mdel_run (P := P) (ty := ty) (u := 0) (ts := ts) hi hf hm k3 hid (opd_cell he k1 hx) (opd_rep he k2) hc.1 hc.2
              refine ⟨.value (.tuple #[]), undef, w', G, ?_, rfl, ⟨#[], rfl, .nil⟩, r2, r3⟩
              simp only [execOp, hr, invoke, builtin, Sem.run_bind, Sem.run_pure, Result.andThen_ok, List.map_cons, List.map_nil]
              rw [r1]
              rfl
            · cases hv
          · cases hv
        · cases k3
      · cases hk
    · cases hk
  | mentry ks zero x k =>
    simp only [opOk] at hk
    split at hk
    · rename_i t x' k'
      simp only [Bool.and_eq_true] at hk
      obtain ⟨⟨k1, k2⟩, k3⟩ := hk
      split at k3
      · rename_i kt et hm
        simp only [Bool.and_eq_true] at k3
        simp only [ch] at hv
        split at hv
        · rename_i id hx
          split at hv
          · rename_i es ck hid
            have fin : ∀ {v h'}, (∃ cv w', (Instr.mapEntry t (a.eval x') (a.eval k')).run P w = .ok cv w' ∧ RepV G v cv ∧ Inv G h' w' ∧ Ext G h n w G h' n w') →
                ∃ nx cv w' G', (execOp a.eval ⟨dst, .mapEntry t x' k', ty, pos, af, gd⟩).run P w = .ok nx w' ∧ Ends cv nx ∧ RepV G' v cv ∧ Inv G' h' w' ∧ Ext G h n w G' h' n w' := by
              rintro v h' ⟨cv, w', r1, r2, r3, r4⟩
              exact ⟨.value cv, cv, w', G, by simp only [execOp, Sem.run_bind, r1, Result.andThen_ok, Sem.run_pure], rfl, r2, r3, r4⟩
            split at hv
            · rename_i u b hfd
              cases hv
              have := mentry_run (P := P) hi hf hm k3.1 k3.2 hid (opd_cell he k1 hx) (opd_rep he k2) hc.1 hc.2
              rw [hfd] at this
              exact fin this
            · rename_i hfd
              cases hv
              have := mentry_run (P := P) hi hf hm k3.1 k3.2 hid (opd_cell he k1 hx) (opd_rep he k2) hc.1 hc.2
              rw [hfd] at this
              exact fin this
          · cases hv
        · cases hv
      · cases k3
    · cases hk
  | estore x s v =>
    simp only [opOk] at hk
    split at hk
    · rename_i t x' s' v'
      simp only [Bool.and_eq_true] at hk
      obtain ⟨⟨k1, k2⟩, k3⟩ := hk
      simp only [ch] at hv
      split at hv
      · rename_i id kd b hx hs
        split at hv
        · rename_i es ck hid
          split at hv
          · rename_i es' hes'
            cases hv
            have e2 := opd_cell he k2 hs
            simp only [Rep] at e2
            obtain ⟨w', r1, r2, r3⟩ := estore_run (P := P) (t := t) (kd := kd) hi hf hid (opd_cell he k1 hx) (opd_rep he k3) hc.1 hc.2 hes'
            exact ⟨.skip, undef, w', G, by simp only [execOp, e2, Sem.run_bind, r1, Result.andThen_ok, Sem.run_pure], rfl, ⟨#[], rfl, .nil⟩, r2, r3⟩
          · cases hv
        · cases hv
      · cases hv
    · cases hk
  | mclone x =>
    simp only [opOk] at hk
    split at hk
    · rename_i c0
      split at hk
      · rename_i g hcal
        simp only [Bool.and_eq_true] at hk
        obtain ⟨k1, k2⟩ := hk
        simp only [ch] at hv
        split at hv
        · rename_i t id hx
          split at hv
          · rename_i es ck hid
            cases hv
            have hxs : ∃ x', c0.args.toList = [x'] ∧ opdOk x' x = true := by
              generalize c0.args.toList = l at k1
              match l, k1 with
              | [x'], k1 => exact ⟨x', rfl, by simpa [opdsOk] using k1⟩
              | x' :: y' :: r, k1 => simp [opdsOk] at k1
            obtain ⟨x', hx1, hx2⟩ := hxs
            obtain ⟨cv, w', G', r1, r2, r3, r4⟩ := mclone_run (P := P) hi hf hid (opd_cell he hx2 hx)
            obtain ⟨fn, q1, q2, q3, q4, q5⟩ := cloneFn_some k2
            refine ⟨.value cv, cv, w', G', ?_, rfl, r2, r3, r4⟩
            have hargs : c0.args.map a.eval = #[a.eval x'] := by
              apply Array.ext'
              simp [hx1]
            have hev : a.eval (.func g) = .func (.func g) #[] #[] := rfl
            simp only [execOp, resolve, hcal, hev, Deferred.ofValue, Sem.run_bind, Sem.run_pure, Result.andThen_ok, invoke, Array.append_empty, Array.empty_append, hargs]
            rw [run_callFunc_extern q1 q2 q3 q4 q5, r1]
            rfl
          · cases hv
        · cases hv
      · cases hk
    · cases hk
  | frz sz x =>
    simp only [ch] at hv
    split at hv
    · rename_i id hx
      split at hv
      · rename_i es hes
        cases hv
        simp only [opOk] at hk
        split at hk
        · rename_i y
          obtain ⟨G', h1, h2, h3⟩ := shut_state hi hf hes hc.1 hc.2 (opd_cell he hk hx)
          exact ⟨_, _, w, G', rfl, rfl, h1, h2, h3⟩
        · rename_i y
          obtain ⟨G', h1, h2, h3⟩ := shut_state hi hf hes hc.1 hc.2 (opd_cell he hk hx)
          exact ⟨_, _, w, G', rfl, rfl, h1, h2, h3⟩
        · cases hk
      · cases hv
    · cases hv
  | slM sz k zero ps =>
    cases hv
    simp only [opOk] at hk
    split at hk
    · rename_i t m parts
      simp only [Bool.and_eq_true, beq_iff_eq, decide_eq_true_eq] at hk
      obtain ⟨⟨⟨rfl, k1⟩, k2⟩, k3⟩ := hk
      split at k3
      · rename_i e hg
        simp only [Bool.and_eq_true] at k3
        obtain ⟨⟨k4, k5⟩, k6⟩ := k3
        split at k6
        · rename_i z hz
          obtain ⟨ie, zv, h1, h2, h3, rfl, h4⟩ := elemZero_some hz
          obtain ⟨ie', h5, h6⟩ := szOk_some k5
          rw [h1] at h5; cases h5
          subst h6
          have hz2 : ((Array.range (m * ie.size)).map (zv.cells[· % zv.cells.size]!)).toList = (List.replicate m zv.cells.toList).flatten := by
            exact zeros_list h3 (Nat.pos_of_ne_zero (fun h0 => by rw [h0] at k2; simp at k2)) m
          have hrep : F2 (Rep G) zero ((Array.range (m * ie.size)).map (zv.cells[· % zv.cells.size]!)).toList := by
            rw [hz2]; exact acsOk_rep k6
          have hlen : zero.length = m * ie.size := by
            rw [F2.length hrep]; simp
          obtain ⟨cells', h8, h9⟩ := fill_told (place := fun i => some (i * ie.size, ie.size)) _ ps ((Array.range (m * ie.size)).map (zv.cells[· % zv.cells.size]!)) zero hrep (rowParts_rep he _ _ k4) hc
          have h10 := run_buildSlice (P := P) w t e m (parts.map fun (i, x) => (i, a.eval x)) cells' ie zv (sliceElem_some hg) h1 h2 (by omega) (by omega) (by simpa using h8)
          have hfl : (fills env zero ps).length = m * ie.size := by rw [fills_length ps zero hc, hlen]
          have hgl : ∀ e' ∈ groups ie.size m (fills env zero ps), e'.length = ie.size := fun e' he' => by
            obtain ⟨i, hi'⟩ := List.mem_iff_getElem?.1 he'
            rw [groups_get] at hi'
            split at hi'
            · cases hi'
              rename_i hlt
              have h1 : i * ie.size + ie.size ≤ m * ie.size := by rw [← Nat.succ_mul]; exact Nat.mul_le_mul_right _ hlt
              simp only [List.length_take, List.length_drop]; omega
            · cases hi'
          have hcl : cells'.toList.length = m * ie.size := by rw [← F2.length h9, hfl]
          have hs := Same.alloc w (.cells cells' e)
          refine ⟨.value (.slice (some ⟨w.heap.size, 0, none⟩) m m), _, _, G.addObj n ⟨w.heap.size, ie.size, m, m⟩, by simp only [execOp, Sem.run_bind, h10, Result.andThen_ok]; rfl, rfl, ⟨_, by simp [Ghost.addObj]; rfl, by simp⟩, ?_, Ext.newObj (.refl G) rfl hs hf (Nat.le_refl _) _⟩
          refine (hi.same hs).addObj (hf n (Nat.le_refl _)).1 (hf n (Nat.le_refl _)).2 (not_live_new hi) ⟨by rw [groups_length], Nat.le_refl _, cells', e, (0, 0), by simp [World.alloc], by simp at hcl; exact Nat.le_of_eq hcl.symm, fun o _ => by simp, fun i e' he' => ⟨hgl e' (List.mem_of_getElem? he'), fun j x hx => ?_⟩⟩ (fun o x hx => ?_)
          · rw [groups_get] at he'
            split at he'
            · cases he'
              have hj : j < ie.size := by
                have := (List.getElem?_eq_some_iff.1 hx).1
                simp only [List.length_take] at this; omega
              rw [List.getElem?_take_of_lt hj, List.getElem?_drop] at hx
              obtain ⟨v, h14, h15⟩ := told_get h9 hx
              exact ⟨v, by simpa using h14, h15⟩
            · cases he'
          · obtain ⟨v, h1, _⟩ := hi.fx _ _ _ hx
            have := cell_lt h1
            simp at this
        · cases k6
      · cases k3
    · cases hk
  | _ => cases hv

/-! ### Functions -/

/-- A call of f comes to K. -/
def Fn (P : Program) (f : Nat) (args : List AV) (h : Heap) (n : Nat) (K : AV → Heap → Nat → Prop) : Prop :=
  ∀ G (vs : List Value) w, F2 (RepE G) args vs → Inv G h w → Fresh G h n → Calls P f vs.toArray w fun e w' => ∃ cv r h' n' G', e = .returned cv ∧ K r h' n' ∧ RepV G' r cv ∧ Inv G' h' w' ∧ Ext G h n w G' h' n' w'

theorem Fn.mono {f : Nat} {args : List AV} {K K' : AV → Heap → Nat → Prop} (hF : Fn P f args h n K) (hK : ∀ r h' n', n ≤ n' → K r h' n' → K' r h' n') : Fn P f args h n K' :=
  fun G vs w h1 h2 h3 => (hF G vs w h1 h2 h3).mono fun e w' ⟨cv, r, h', n', G', e1, e2, e3, e4, e5⟩ => ⟨cv, r, h', n', G', e1, hK _ _ _ e5.next e2, e3, e4, e5⟩

theorem fnOk_some {f : Nat} (hf : fnOk P f = true) : ∃ fn, P.funcs[f]? = some fn ∧ fn.body.isSome = true ∧ (fn.name == "runtime.NumGoroutine") = false := by
  unfold fnOk at hf
  split at hf
  · rename_i fn hfn
    simp only [Bool.and_eq_true, Bool.not_eq_true'] at hf
    exact ⟨fn, hfn, hf.1, hf.2⟩
  · cases hf

theorem call_run {f : Nat} {args : List Opd} {o : Op} (hk : opOk P (.call f args) o = true) : ∀ (a : Act) (oo : Oper), oo.op = o → ∃ xs : List Operand, opdsOk xs args = true ∧ (execOp a.eval oo).run P w = .ok (.enter f (xs.map a.eval).toArray) w := by
  intro a oo ho
  simp only [opOk] at hk
  split at hk
  · rename_i c
    split at hk
    · rename_i g hcal
      simp only [Bool.and_eq_true, beq_iff_eq] at hk
      obtain ⟨⟨rfl, k2⟩, k3⟩ := hk
      obtain ⟨fn, h1, h2, h3⟩ := fnOk_some k3
      refine ⟨c.args.toList, k2, ?_⟩
      have hargs : c.args.map a.eval = (c.args.toList.map a.eval).toArray := by apply Array.ext'; simp
      obtain ⟨b, hb⟩ := Option.isSome_iff_exists.1 h2
      have h3' : ¬ fn.name = "runtime.NumGoroutine" := by simpa using h3
      have hne : fn.body.isNone = false := by rw [hb]; rfl
      have hev : a.eval (.func f) = .func (.func f) #[] #[] := rfl
      unfold execOp
      rw [ho]
      simp only [resolve, hcal, hev, Deferred.ofValue, Sem.run_bind, Sem.run_pure, Result.andThen_ok, invoke, callFunc, run_program, h1, h3, hne, Bool.false_eq_true, if_false, Array.append_empty, Array.empty_append]
      rw [hargs]
    · cases hk
  · cases hk

end
end Go.Ab
