/- Comparable values: held against each other, as keys. -/
import Derived.Test.YtdbaldohbjnlpaaGreatAb5b
import Derived.ChangeKeysEq
import Derived.WideKeyRuns
import Derived.MapKept
set_option linter.unusedVariables false
set_option linter.unusedSimpArgs false
namespace Go.Ab
section
variable {P : Program} {G : Ghost} {h : Heap} {w : World} {n : Nat}

/-- A value has its type's form. -/
def FormAt (P : Program) (t : TypeId) (v : Value) : Prop := match P.underlying t with
  | some (.struct _) | some (.array _ _) => ∃ a, v = .agg a
  | _ => v.oneCell' = true

theorem fitsK_len : ∀ {ks : List Kty} {cs : List AC}, fitsK ks cs = true → cs.length = ks.length
  | [], [], _ => rfl
  | k :: ks, c :: cs, h => by
    simp only [fitsK, Bool.and_eq_true] at h
    simp [fitsK_len h.2]
  | [], _ :: _, h => by simp [fitsK] at h
  | _ :: _, [], h => by simp [fitsK] at h
theorem fitsK_append : ∀ {a b : List Kty} {cs : List AC}, fitsK (a ++ b) cs = true → fitsK a (cs.take a.length) = true ∧ fitsK b (cs.drop a.length) = true
  | [], b, cs, h => by simpa [fitsK] using h
  | k :: a, b, [], h => by simp [fitsK] at h
  | k :: a, b, c :: cs, h => by
    simp only [List.cons_append, fitsK, Bool.and_eq_true] at h
    obtain ⟨h1, h2⟩ := fitsK_append h.2
    simp only [List.length_cons, List.take_succ_cons, List.drop_succ_cons, fitsK, h.1, h1, h2, Bool.and_self, and_self]
theorem eqL_append : ∀ (n : Nat) (xs ys : List AC), xs.length = ys.length → eqL xs ys = (eqL (xs.take n) (ys.take n) && eqL (xs.drop n) (ys.drop n))
  | 0, xs, ys, _ => by simp [eqL]
  | n + 1, [], [], _ => by simp [eqL]
  | n + 1, x :: xs, y :: ys, h => by
    simp only [List.take_succ_cons, List.drop_succ_cons, eqL]
    rw [eqL_append n xs ys (by simpa using h), Bool.and_assoc]
  | n + 1, [], _ :: _, h => by simp at h
  | n + 1, _ :: _, [], h => by simp at h

theorem kTy_some {d : Nat} {t : TypeId} {ks : List Kty} (h : kTy P d t = some ks) : ∃ ag, tyOk P ag ks.length t = true := by
  cases d with
  | zero => cases h
  | succ d =>
    simp only [kTy] at h
    split at h
    · rename_i k hu
      split at h
      · rename_i hs; cases h; exact ⟨false, by simpa [tyOk, hu, szOk] using hs⟩
      · cases h
    · rename_i hu
      split at h
      · rename_i hs; cases h; exact ⟨false, by simpa [tyOk, hu, szOk] using hs⟩
      · cases h
    · rename_i hu
      split at h
      · rename_i hs; cases h; exact ⟨false, by simpa [tyOk, hu, szOk] using hs⟩
      · cases h
    · rename_i fs hu
      split at h
      · cases h
      · split at h
        · split at h
          · rename_i hs; cases h; exact ⟨true, by simpa [tyOk, hu, szOk] using hs⟩
          · cases h
        · cases h
    · rename_i n e hu
      split at h
      · split at h
        · split at h
          · rename_i l _ _ hs
            cases h
            refine ⟨true, ?_⟩
            have hl : (List.replicate n l).flatten.length = n * l.length := by simp [List.length_flatten]
            rw [hl]
            simpa [tyOk, hu, szOk] using hs
          · cases h
        · cases h
      · cases h
    · cases h

theorem part_kty {d : Nat} {t : TypeId} {ks : List Kty} (h : kTy P d t = some ks) {xs : List AC} {vs : Array Value} (hr : F2 (Rep G) xs vs.toList) {off : Nat} (hl : fitsK ks ((xs.drop off).take ks.length) = true) :
    ∃ v, (Go.part t vs off).run P w = .ok v w ∧ F2 (Rep G) ((xs.drop off).take ks.length) v.cells.toList ∧ FormAt P t v := by
  obtain ⟨ag, ht⟩ := kTy_some h
  have hlen := fitsK_len hl
  have hlen2 : off + ks.length ≤ xs.length ∨ ks.length = 0 := by simp only [List.length_take, List.length_drop] at hlen; omega
  cases ag with
  | true =>
    have hoff : off + ks.length ≤ xs.length ∨ ks.length = 0 := hlen2
    have hg : (isAgg t).run P w = .ok true w := by
      simp only [tyOk, Bool.and_eq_true] at ht
      have h1 := ht.1
      unfold isAgg
      split at h1
      · rename_i hu; simp [run_underlying hu]
      · rename_i hu; simp [run_underlying hu]
      · simp at h1
      · cases h1
    have hs : szOk P ks.length t = true := by
      simp only [tyOk, Bool.and_eq_true] at ht
      exact ht.2
    refine ⟨.agg (vs.extract off (off + ks.length)), by simp [Go.part, hg, sizeOf_run hs], ?_, ?_⟩
    · show F2 (Rep G) _ (vs.extract off (off + ks.length)).toList
      rw [Array.toList_extract]
      have := F2.take (F2.drop hr off) ks.length
      simpa [List.extract_eq_take_drop, Nat.add_sub_cancel_left] using this
    · unfold FormAt
      simp only [tyOk, Bool.and_eq_true] at ht
      have h1 := ht.1
      split at h1
      · rename_i hu; rw [hu]; exact ⟨_, rfl⟩
      · rename_i hu; rw [hu]; exact ⟨_, rfl⟩
      · simp at h1
      · cases h1
  | false =>
    have h1 : ks.length = 1 := by
      simp only [tyOk, Bool.and_eq_true] at ht
      have h1 := ht.1
      split at h1
      · cases h1
      · cases h1
      · simpa using h1
      · cases h1
    rw [h1] at hlen hlen2 ht ⊢
    have hoff : off < xs.length := by omega
    obtain ⟨cv, h2, h3⟩ := part_run (P := P) (w := w) (off := off) ht hr (v := .c xs[off]) (c := True) (by simp [part, hoff]) trivial
    have h4 : Rep G xs[off] cv := h3
    refine ⟨cv, h2, ?_, ?_⟩
    · rw [Value.cells_one h4.one]
      have : (xs.drop off).take 1 = [xs[off]] := by
        rw [List.drop_eq_getElem_cons hoff]; rfl
      rw [this]
      exact .cons h4 .nil
    · unfold FormAt
      simp only [tyOk, Bool.and_eq_true] at ht
      have h1 := ht.1
      split at h1
      · cases h1
      · cases h1
      · rename_i hn1 hn2 hu
        rw [hu]
        split
        · rename_i hh; cases hh; exact absurd rfl (hn1 _)
        · rename_i hh; cases hh; exact absurd rfl (hn2 _ _)
        · exact h4.one
      · cases h1

theorem one_cells {v : Value} {x : AC} (hr : F2 (Rep G) [x] v.cells.toList) (hf : v.oneCell' = true) : Rep G x v := by
  rw [Value.cells_one hf] at hr
  cases hr with
  | cons h _ => exact h

theorem fits_i {k : IntKind} {xs : List AC} (h : fitsK [.i k] xs = true) : ∃ a, xs = [.int k a] := by
  match xs, h with
  | [x], h =>
    simp only [fitsK, Bool.and_true] at h
    cases x <;> simp [fitK] at h
    subst h; exact ⟨_, rfl⟩
  | [], h => simp [fitsK] at h
  | _ :: _ :: _, h => simp [fitsK] at h
theorem fits_s {xs : List AC} (h : fitsK [.s] xs = true) : ∃ a, xs = [.str a] := by
  match xs, h with
  | [x], h =>
    simp only [fitsK, Bool.and_true] at h
    cases x <;> simp [fitK] at h
    exact ⟨_, rfl⟩
  | [], h => simp [fitsK] at h
  | _ :: _ :: _, h => simp [fitsK] at h
theorem fits_b {xs : List AC} (h : fitsK [.b] xs = true) : ∃ a, xs = [.bool a] := by
  match xs, h with
  | [x], h =>
    simp only [fitsK, Bool.and_true] at h
    cases x <;> simp [fitK] at h
    exact ⟨_, rfl⟩
  | [], h => simp [fitsK] at h
  | _ :: _ :: _, h => simp [fitsK] at h

/-- Values of a type are held against each other. -/
theorem equalIn_run : ∀ (d : Nat) (t : TypeId) (ks : List Kty), kTy P d t = some ks → ∀ (D : Nat), d ≤ D → ∀ (xs ys : List AC) (vx vy : Value), F2 (Rep G) xs vx.cells.toList → F2 (Rep G) ys vy.cells.toList →
    FormAt P t vx → FormAt P t vy → fitsK ks xs = true → fitsK ks ys = true → (Op.equalIn D t vx vy).run P w = .ok (eqL xs ys) w := by
  intro d
  induction d with
  | zero => intro t ks h; cases h
  | succ d ih =>
    intro t ks h D hD xs ys vx vy rx ry fx fy kx ky
    obtain ⟨D, rfl⟩ : ∃ m, D = m + 1 := ⟨D - 1, by omega⟩
    simp only [kTy] at h
    unfold FormAt at fx fy
    split at h
    · rename_i k hu
      rw [hu] at fx fy
      simp only at fx fy
      split at h <;> cases h
      obtain ⟨a, rfl⟩ := fits_i kx
      obtain ⟨b, rfl⟩ := fits_i ky
      have e1 := one_cells rx fx
      have e2 := one_cells ry fy
      cases e1; cases e2
      simp [Op.equalIn, run_underlying hu, eqL, eqC]
    · rename_i hu
      rw [hu] at fx fy
      simp only at fx fy
      split at h <;> cases h
      obtain ⟨a, rfl⟩ := fits_s kx
      obtain ⟨b, rfl⟩ := fits_s ky
      have e1 := one_cells rx fx
      have e2 := one_cells ry fy
      cases e1; cases e2
      rw [run_equalIn_string _ _ _ _ _ hu]
      simp [eqL, eqC, str_list]
    · rename_i hu
      rw [hu] at fx fy
      simp only at fx fy
      split at h <;> cases h
      obtain ⟨a, rfl⟩ := fits_b kx
      obtain ⟨b, rfl⟩ := fits_b ky
      have e1 := one_cells rx fx
      have e2 := one_cells ry fy
      cases e1; cases e2
      simp [Op.equalIn, run_underlying hu, eqL, eqC]
    · rename_i fs hu
      rw [hu] at fx fy
      simp only at fx fy
      split at h
      · cases h
      · rename_i hst
        split at h
        · rename_i l hl
          split at h
          · cases h
            obtain ⟨X, rfl⟩ := fx
            obtain ⟨Y, rfl⟩ := fy
            have rx : F2 (Rep G) xs X.toList := rx
            have ry : F2 (Rep G) ys Y.toList := ry
            have hfs : P.fieldsOf t = fs := by simp [Program.fieldsOf, hu]
            rw [run_equalIn_struct _ _ _ _ _ (by rw [hfs]; exact hu) (by simpa using hst), hfs]
            have key : ∀ (fl : List Field) (off : Nat) (ks : List Kty), structK (kTy P d) fl off = some ks → fitsK ks (xs.drop off) = true → fitsK ks (ys.drop off) = true →
                (Op.eqFields D X Y fl).run P w = .ok (eqL (xs.drop off) (ys.drop off)) w := by
              intro fl
              induction fl with
              | nil =>
                intro off ks h kx ky
                simp only [structK, Option.some.injEq] at h
                subst h
                have e1 := List.eq_nil_of_length_eq_zero (fitsK_len kx)
                have e2 := List.eq_nil_of_length_eq_zero (fitsK_len ky)
                rw [e1, e2]
                simp [Op.eqFields, eqL]
              | cons f fl ihf =>
                intro off ks h kx ky
                simp only [structK] at h
                split at h
                · rename_i hc
                  simp only [Bool.and_eq_true, bne_iff_ne, ne_eq, beq_iff_eq] at hc
                  obtain ⟨hn, rfl⟩ := hc
                  split at h
                  · rename_i l1 h1
                    split at h
                    · rename_i l2 h2
                      cases h
                      obtain ⟨kx1, kx2⟩ := fitsK_append kx
                      obtain ⟨ky1, ky2⟩ := fitsK_append ky
                      rw [List.drop_drop] at kx2 ky2
                      obtain ⟨a, p1, p2, p3⟩ := part_kty (w := w) h1 rx (off := f.offset) kx1
                      obtain ⟨b, q1, q2, q3⟩ := part_kty (w := w) h1 ry (off := f.offset) ky1
                      have hr := ih _ _ h1 D (by omega) _ _ _ _ p2 q2 p3 q3 kx1 ky1
                      have hlx := fitsK_len kx
                      have hly := fitsK_len ky
                      rw [eqL_append l1.length _ _ (hlx.trans hly.symm), List.drop_drop, List.drop_drop]
                      simp only [Op.eqFields, hn, ne_eq, not_false_eq_true, if_true, Sem.run_bind, p1, q1, hr, Result.andThen_ok]
                      cases he : eqL ((xs.drop f.offset).take l1.length) ((ys.drop f.offset).take l1.length)
                      · simp
                      · simp only [Bool.not_true, Bool.false_eq_true, if_false, Bool.true_and]
                        exact ihf _ _ h2 kx2 ky2
                    · cases h
                  · cases h
                · cases h
            simpa using key fs.toList 0 _ hl (by simpa using kx) (by simpa using ky)
          · cases h
        · cases h
    · rename_i n e hu
      rw [hu] at fx fy
      simp only at fx fy
      split at h
      · rename_i l hl
        split at h
        · rename_i hse
          split at h
          · cases h
            obtain ⟨X, rfl⟩ := fx
            obtain ⟨Y, rfl⟩ := fy
            have rx : F2 (Rep G) xs X.toList := rx
            have ry : F2 (Rep G) ys Y.toList := ry
            obtain ⟨i, hi, hsz⟩ := szOk_some hse
            have hc : P.cellsOf e = l.length := by simp [Program.cellsOf, hi, hsz]
            rw [run_equalIn_array _ _ X Y hu hi, hc, List.range_eq_range']
            have key : ∀ (m j : Nat), fitsK (List.replicate m l).flatten (xs.drop (j * l.length)) = true → fitsK (List.replicate m l).flatten (ys.drop (j * l.length)) = true →
                (Op.eqItems D e l.length X Y (List.range' j m)).run P w = .ok (eqL (xs.drop (j * l.length)) (ys.drop (j * l.length))) w := by
              intro m
              induction m with
              | zero =>
                intro j kx ky
                have e1 := List.eq_nil_of_length_eq_zero (fitsK_len kx)
                have e2 := List.eq_nil_of_length_eq_zero (fitsK_len ky)
                rw [e1, e2]
                simp [Op.eqItems, eqL]
              | succ m ihm =>
                intro j kx ky
                rw [List.replicate_succ, List.flatten_cons] at kx ky
                obtain ⟨kx1, kx2⟩ := fitsK_append kx
                obtain ⟨ky1, ky2⟩ := fitsK_append ky
                have hlx := fitsK_len kx
                have hly := fitsK_len ky
                obtain ⟨a, p1, p2, p3⟩ := part_kty (w := w) hl rx (off := j * l.length) kx1
                obtain ⟨b, q1, q2, q3⟩ := part_kty (w := w) hl ry (off := j * l.length) ky1
                have hr := ih _ _ hl D (by omega) _ _ _ _ p2 q2 p3 q3 kx1 ky1
                rw [eqL_append l.length _ _ (hlx.trans hly.symm)]
                rw [List.drop_drop, ← Nat.succ_mul] at kx2 ky2 ⊢
                rw [List.drop_drop, ← Nat.succ_mul]
                simp only [List.range'_succ, Op.eqItems, Sem.run_bind, p1, q1, hr, Result.andThen_ok]
                cases he : eqL ((xs.drop (j * l.length)).take l.length) ((ys.drop (j * l.length)).take l.length)
                · simp
                · simp only [Bool.not_true, Bool.false_eq_true, if_false, Bool.true_and]
                  exact ihm _ kx2 ky2
            simpa using key n 0 (by simpa using kx) (by simpa using ky)
          · cases h
        · cases h
      · cases h
    · cases h

/-- A key may be one. -/
theorem checkKey_run (em : Bool) : ∀ (d : Nat) (t : TypeId) (ks : List Kty), kTy P d t = some ks → ∀ (D : Nat), d ≤ D → ∀ (xs : List AC) (vx : Value), F2 (Rep G) xs vx.cells.toList → FormAt P t vx → fitsK ks xs = true →
    (Instr.checkKey em D t vx).run P w = .ok () w := by
  intro d
  induction d with
  | zero => intro t ks h; cases h
  | succ d ih =>
    intro t ks h D hD xs vx rx fx kx
    obtain ⟨D, rfl⟩ : ∃ m, D = m + 1 := ⟨D - 1, by omega⟩
    simp only [kTy] at h
    unfold FormAt at fx
    split at h
    · rename_i k hu
      rw [hu] at fx
      simp only at fx
      split at h <;> cases h
      obtain ⟨a, rfl⟩ := fits_i kx
      have e1 := one_cells rx fx
      cases e1
      simp [Instr.checkKey, run_underlying hu]
    · rename_i hu
      rw [hu] at fx
      simp only at fx
      split at h <;> cases h
      obtain ⟨a, rfl⟩ := fits_s kx
      have e1 := one_cells rx fx
      cases e1
      simp [Instr.checkKey, run_underlying hu]
    · rename_i hu
      rw [hu] at fx
      simp only at fx
      split at h <;> cases h
      obtain ⟨a, rfl⟩ := fits_b kx
      have e1 := one_cells rx fx
      cases e1
      simp [Instr.checkKey, run_underlying hu]
    · rename_i fs hu
      rw [hu] at fx
      simp only at fx
      split at h
      · cases h
      · split at h
        · rename_i l hl
          split at h
          · cases h
            obtain ⟨X, rfl⟩ := fx
            have rx : F2 (Rep G) xs X.toList := rx
            simp only [Instr.checkKey, Sem.run_bind, run_underlying hu, Result.andThen_ok]
            rw [← Array.forIn_toList]
            have key : ∀ (fl : List Field) (off : Nat) (ks : List Kty), structK (kTy P d) fl off = some ks → fitsK ks (xs.drop off) = true →
                (forIn fl PUnit.unit fun f r => do
                  if f.name ≠ "_" then do
                    Instr.checkKey em D f.type (← Go.part f.type X f.offset)
                    pure (ForInStep.yield PUnit.unit)
                  else pure (ForInStep.yield PUnit.unit) : Sem PUnit).run P w = .ok () w := by
              intro fl
              induction fl with
              | nil => intro off ks h kx; simp
              | cons f fl ihf =>
                intro off ks h kx
                simp only [structK] at h
                split at h
                · rename_i hc
                  simp only [Bool.and_eq_true, bne_iff_ne, ne_eq, beq_iff_eq] at hc
                  obtain ⟨hn, rfl⟩ := hc
                  split at h
                  · rename_i l1 h1
                    split at h
                    · rename_i l2 h2
                      cases h
                      obtain ⟨kx1, kx2⟩ := fitsK_append kx
                      rw [List.drop_drop] at kx2
                      obtain ⟨a, p1, p2, p3⟩ := part_kty (w := w) h1 rx (off := f.offset) kx1
                      have hr := ih _ _ h1 D (by omega) _ _ p2 p3 kx1
                      have := ihf _ _ h2 kx2
                      simp only [List.forIn_cons, hn, ne_eq, not_false_eq_true, if_true, Sem.run_bind, p1, hr, Result.andThen_ok, Sem.run_pure]
                      exact this
                    · cases h
                  · cases h
                · cases h
            rw [key fs.toList 0 _ hl (by simpa using kx)]
            rfl
          · cases h
        · cases h
    · rename_i n e hu
      rw [hu] at fx
      simp only at fx
      split at h
      · rename_i l hl
        split at h
        · rename_i hse
          split at h
          · cases h
            obtain ⟨X, rfl⟩ := fx
            have rx : F2 (Rep G) xs X.toList := rx
            simp only [Instr.checkKey, Sem.run_bind, run_underlying hu, Result.andThen_ok, sizeOf_run hse]
            simp only [Std.Legacy.Range.forIn_eq_forIn_range', Std.Legacy.Range.size, Nat.sub_zero, Nat.add_one_sub_one, Nat.div_one]
            have key : ∀ (m j : Nat), fitsK (List.replicate m l).flatten (xs.drop (j * l.length)) = true →
                (forIn (List.range' j m) PUnit.unit fun i r => do
                  Instr.checkKey em D e (← Go.part e X (i * (← sizeOf e)))
                  pure (ForInStep.yield PUnit.unit) : Sem PUnit).run P w = .ok () w := by
              intro m
              induction m with
              | zero => intro j kx; simp
              | succ m ihm =>
                intro j kx
                rw [List.replicate_succ, List.flatten_cons] at kx
                obtain ⟨kx1, kx2⟩ := fitsK_append kx
                rw [List.drop_drop, ← Nat.succ_mul] at kx2
                obtain ⟨a, p1, p2, p3⟩ := part_kty (w := w) hl rx (off := j * l.length) kx1
                have hr := ih _ _ hl D (by omega) _ _ p2 p3 kx1
                have := ihm (j + 1) kx2
                simp only [List.range'_succ, List.forIn_cons, Sem.run_bind, sizeOf_run hse, p1, hr, Result.andThen_ok, Sem.run_pure] at this ⊢
                exact this
            have := key n 0 (by simpa using kx)
            rw [this]
            rfl
          · cases h
        · cases h
      · cases h
    · cases h

/-- A comparable value. -/
theorem fitsV_form {ks : Ksh} {t : TypeId} (hk : kshOk P ks t = true) {x : AV} {v : Value} (hx : RepV G x v) (hf : fitsV ks x = true) : F2 (Rep G) x.cells v.cells.toList ∧ FormAt P t v ∧ fitsK ks.2 x.cells = true := by
  simp only [kshOk, Bool.and_eq_true, beq_iff_eq] at hk
  simp only [fitsV, Bool.and_eq_true] at hf
  have hne : x ≠ .any := by intro e; rw [e] at hf; simp [formOk] at hf
  have hE : RepE G x v := by
    cases x with
    | tup _ => simp [formOk] at hf
    | any => trivial
    | c _ => exact hx
    | agg _ => exact hx
  refine ⟨hE.cells hne, ?_, hf.2⟩
  unfold FormAt
  have h3 := hk.2
  have h4 := hf.1
  split at h3
  · rename_i hu
    rw [hu]
    cases x with
    | agg cs => obtain ⟨vs, rfl, _⟩ := hE; exact ⟨_, rfl⟩
    | c _ => simp [formOk, h3] at h4
    | any => exact absurd rfl hne
    | tup _ => simp [formOk] at h4
  · rename_i hu
    rw [hu]
    cases x with
    | agg cs => obtain ⟨vs, rfl, _⟩ := hE; exact ⟨_, rfl⟩
    | c _ => simp [formOk, h3] at h4
    | any => exact absurd rfl hne
    | tup _ => simp [formOk] at h4
  · rename_i hn1 hn2
    split
    · rename_i hu; exact absurd hu (hn1 _)
    · rename_i hu; exact absurd hu (hn2 _ _)
    · cases x with
      | agg cs => simp only [formOk] at h4; rw [h4] at h3; cases h3
      | c _ => exact Rep.one hE
      | any => exact absurd rfl hne
      | tup _ => simp [formOk] at h4

theorem equal_run {ks : Ksh} {t : TypeId} (hk : kshOk P ks t = true) {x y : AV} {vx vy : Value} (hx : RepV G x vx) (hy : RepV G y vy) (fx : fitsV ks x = true) (fy : fitsV ks y = true) :
    (Op.equal t vx vy).run P w = .ok (eqL x.cells y.cells) w := by
  obtain ⟨a1, a2, a3⟩ := fitsV_form hk hx fx
  obtain ⟨b1, b2, b3⟩ := fitsV_form hk hy fy
  simp only [kshOk, Bool.and_eq_true, beq_iff_eq] at hk
  exact equalIn_run 20 t _ hk.1.1 10000 (by decide) _ _ _ _ a1 b1 a2 b2 a3 b3

theorem keyOk_run {ks : Ksh} {t : TypeId} (hk : kshOk P ks t = true) (em : Bool) {x : AV} {vx : Value} (hx : RepV G x vx) (fx : fitsV ks x = true) : (Instr.checkKey em 10000 t vx).run P w = .ok () w := by
  obtain ⟨a1, a2, a3⟩ := fitsV_form hk hx fx
  simp only [kshOk, Bool.and_eq_true, beq_iff_eq] at hk
  exact checkKey_run em 20 t _ hk.1.1 10000 (by decide) _ _ a1 a2 a3

/-- A plain value is no aggregate of the model's. -/
theorem eq_bin {ks : Ksh} {t : TypeId} (hk : kshOk P ks t = true) {x y : AV} {vx vy : Value} (hx : RepV G x vx) (hy : RepV G y vy) (fx : fitsV ks x = true) (fy : fitsV ks y = true) (ox oy : Operand) :
    (do eqGuard .eql t ox oy vx vy; binOp .eql t vx vy : Sem Value).run P w = .ok (.bool (eqL x.cells y.cells)) w ∧ (do eqGuard .neq t ox oy vx vy; binOp .neq t vx vy : Sem Value).run P w = .ok (.bool !(eqL x.cells y.cells)) w := by
  have he := equal_run (w := w) hk hx hy fx fy
  simp only [kshOk, Bool.and_eq_true, beq_iff_eq, Bool.not_eq_true'] at hk
  have hg := hk.1.2
  simp only [fitsV, Bool.and_eq_true] at fx fy
  cases x with
  | any => simp [formOk] at fx
  | tup _ => simp [formOk] at fx
  | agg xs =>
    cases y with
    | any => simp [formOk] at fy
    | tup _ => simp [formOk] at fy
    | c b =>
      have h1 := fx.1; have h2 := fy.1
      simp only [formOk] at h1 h2
      rw [h1] at h2; cases h2
    | agg ys =>
      obtain ⟨vs, rfl, _⟩ := hx
      obtain ⟨us, rfl, _⟩ := hy
      simp [eqGuard, binOp, hg, he]
  | c a =>
    cases y with
    | any => simp [formOk] at fy
    | tup _ => simp [formOk] at fy
    | agg b =>
      have h1 := fx.1; have h2 := fy.1
      simp only [formOk] at h1 h2
      rw [h2] at h1; cases h1
    | c b =>
      have fx2 := fx.2
      have fy2 := fy.2
      simp only [AV.cells] at fx2 fy2
      obtain ⟨k, hkk⟩ : ∃ k, ks.2 = [k] := by
        have := fitsK_len fx2
        generalize ks.2 = l at this
        match l, this with
        | [k], _ => exact ⟨k, rfl⟩
      rw [hkk] at fx2 fy2
      · simp only [fitsK, Bool.and_true] at fx2 fy2
        cases k with
        | i k =>
          cases a <;> simp [fitK] at fx2
          cases b <;> simp [fitK] at fy2
          subst fx2; subst fy2
          cases hx; cases hy
          simp [eqGuard, binOp, Op.intCmp, eqL, eqC, AV.cells, bne]
        | s =>
          cases a <;> simp [fitK] at fx2
          cases b <;> simp [fitK] at fy2
          cases hx; cases hy
          simp [eqGuard, binOp, Op.stringOp, eqL, eqC, AV.cells, str_list, bne]
        | b =>
          cases a <;> simp [fitK] at fx2
          cases b <;> simp [fitK] at fy2
          cases hx; cases hy
          simp [eqGuard, binOp, he]

theorem kTy_desc {d : Nat} {t : TypeId} {ks : List Kty} (h : kTy P (d + 1) t = some ks) : ∃ dd, P.underlying t = some dd ∧ (match dd with | .int k => ks = [.i k] | .string => ks = [.s] | .bool => ks = [.b] | .struct _ => True | .array _ _ => True | _ => False) := by
  simp only [kTy] at h
  split at h
  · rename_i hu; split at h <;> cases h; exact ⟨_, hu, rfl⟩
  · rename_i hu; split at h <;> cases h; exact ⟨_, hu, rfl⟩
  · rename_i hu; split at h <;> cases h; exact ⟨_, hu, rfl⟩
  · rename_i hu; exact ⟨_, hu, trivial⟩
  · rename_i hu; exact ⟨_, hu, trivial⟩
  · cases h

abbrev Ent := AV × AV × Nat

def findIx (k : List AC) : List Ent → List MapEntry → Nat → Option (Nat × Value)
  | (a, _, _) :: es, m :: en, i => bif eqL k a.cells then some (i, m.val) else findIx k es en (i + 1)
  | _, _, _ => none

theorem keysFit_cons {ks : Ksh} {e : Ent} {es : List Ent} (h : keysFit ks (e :: es) = true) : fitsV ks e.1 = true ∧ keysFit ks es = true := by
  simpa [keysFit] using h

theorem findAsking_run {ks : Ksh} {kt : TypeId} (hk : kshOk P ks kt = true) {k : AV} {vk : Value} (hx : RepV G k vk) (fk : fitsV ks k = true) : ∀ (es : List Ent) (en : List MapEntry) (i : Nat), F2 (MapE G) es en → keysFit ks es = true →
    (Instr.findAsking kt vk en i).run P w = .ok (findIx k.cells es en i) w
  | [], [], i, _, _ => by simp [Instr.findAsking, findIx]
  | e :: es, m :: en, i, .cons hm hr, hf => by
    obtain ⟨h1, h2⟩ := keysFit_cons hf
    have he := equal_run (w := w) hk hx hm.key.toV fk h1
    have ih := findAsking_run hk hx fk es en (i + 1) hr h2
    simp only [Instr.findAsking, findIx, Sem.run_bind, he, Result.andThen_ok]
    cases eqL k.cells e.1.cells
    · simpa using ih
    · simp

theorem findNow_run {ks : Ksh} {kt : TypeId} (hk : kshOk P ks kt = true) {d : TypeDesc} (hd : P.underlying kt = some d) (hs : (match d with | .struct _ | .array _ _ => false | _ => true) = true) {k : AV} {vk : Value} (hx : RepV G k vk) (fk : fitsV ks k = true) :
    ∀ (es : List Ent) (en : List MapEntry) (i : Nat), F2 (MapE G) es en → keysFit ks es = true → Instr.findNow d vk en i = some (findIx k.cells es en i)
  | [], [], i, _, _ => by simp [Instr.findNow, findIx]
  | e :: es, m :: en, i, .cons hm hr, hf => by
    obtain ⟨h1, h2⟩ := keysFit_cons hf
    have ih := findNow_run hk hd hs hx fk es en (i + 1) hr h2
    obtain ⟨a1, a2, a3⟩ := fitsV_form hk hx fk
    obtain ⟨b1, b2, b3⟩ := fitsV_form hk hm.key.toV h1
    have hsame : Instr.sameNow d vk m.key = some (eqL k.cells e.1.cells) := by
      have hk' := hk
      simp only [kshOk, Bool.and_eq_true, beq_iff_eq] at hk'
      obtain ⟨dd, hdd, hkt⟩ := kTy_desc (d := 19) hk'.1.1
      rw [hd] at hdd; cases hdd
      unfold FormAt at a2 b2
      rw [hd] at a2 b2
      generalize k.cells = X at *
      generalize e.1.cells = Y at *
      generalize ks.2 = kk at *
      cases d with
      | int q =>
        simp only at hkt a2 b2
        subst hkt
        obtain ⟨x, rfl⟩ := fits_i a3
        obtain ⟨y, rfl⟩ := fits_i b3
        have e1 := one_cells a1 a2
        have e2 := one_cells b1 b2
        cases e1
        have e2 : m.key = _ := e2
        rw [e2]
        simp [Instr.sameNow, eqL, eqC]
      | string =>
        simp only at hkt a2 b2
        subst hkt
        obtain ⟨x, rfl⟩ := fits_s a3
        obtain ⟨y, rfl⟩ := fits_s b3
        have e1 := one_cells a1 a2
        have e2 := one_cells b1 b2
        cases e1
        have e2 : m.key = _ := e2
        rw [e2]
        simp only [Instr.sameNow, eqL, eqC, Bool.and_true, Option.some.injEq]
        rw [beq_toListBytes, str_list, str_list]
      | bool =>
        simp only at hkt a2 b2
        subst hkt
        obtain ⟨x, rfl⟩ := fits_b a3
        obtain ⟨y, rfl⟩ := fits_b b3
        have e1 := one_cells a1 a2
        have e2 := one_cells b1 b2
        cases e1
        have e2 : m.key = _ := e2
        rw [e2]
        simp [Instr.sameNow, eqL, eqC]
      | struct _ => cases hs
      | array _ _ => cases hs
      | _ => exact hkt.elim
    simp only [Instr.findNow, findIx, hsame]
    cases eqL k.cells e.1.cells
    · simpa using ih
    · simp

theorem findKey_run {ks : Ksh} {kt : TypeId} (hk : kshOk P ks kt = true) {k : AV} {vk : Value} (hx : RepV G k vk) (fk : fitsV ks k = true) {es : List Ent} {en : List MapEntry} (hm : F2 (MapE G) es en) (hf : keysFit ks es = true) :
    (Instr.findKey kt vk en).run P w = .ok (findIx k.cells es en 0) w := by
  have hu : ∃ d, P.underlying kt = some d := by
    have hk' := hk
    simp only [kshOk, Bool.and_eq_true, beq_iff_eq] at hk'
    obtain ⟨d, hd, _⟩ := kTy_desc (d := 19) hk'.1.1
    exact ⟨d, hd⟩
  obtain ⟨d, hd⟩ := hu
  by_cases hs : (match d with | .struct _ | .array _ _ => false | _ => true) = true
  · simp only [Instr.findKey, Sem.run_bind, run_underlying hd, Result.andThen_ok, findNow_run hk hd hs hx fk es en 0 hm hf, Sem.run_pure]
  · rw [run_findKey_eq w (by rw [hd]; cases d <;> simp_all)]
    exact findAsking_run hk hx fk es en 0 hm hf

theorem findIx_some {k : AV} {f : AV → AV} : ∀ (es : List Ent) (en : List MapEntry) (i : Nat), F2 (MapE G) es en →
    match findM k.cells es with
    | none => findIx k.cells es en i = none
    | some (v, b) => ∃ j m e, findIx k.cells es en i = some (i + j, m.val) ∧ en[j]? = some m ∧ MapE G e m ∧ e.2.1 = v ∧ m.born = b ∧ (eqL k.cells e.1.cells = true ∧ e ∈ es) ∧
        (∀ (g : MapEntry → MapEntry), MapE G (k, f v, b) (g m) → F2 (MapE G) (putM k f es) (en.modify j g)) ∧ F2 (MapE G) (delM k.cells es) (en.eraseIdx j)
  | [], [], i, _ => by simp [findM, findIx]
  | e :: es, m :: en, i, .cons hm hr => by
    obtain ⟨a, v, b⟩ := e
    have ih := findIx_some (k := k) (f := f) es en (i + 1) hr
    simp only [findM, findIx, putM, delM]
    cases he : eqL k.cells a.cells
    · simp only [cond_false]
      split
      · rename_i hn
        rw [hn] at ih
        exact ih
      · rename_i v' b' hn
        rw [hn] at ih
        obtain ⟨j, m', e', h1, h2, h3, h4, h5, h6, h7, h8⟩ := ih
        refine ⟨j + 1, m', e', by rw [h1]; congr 2; omega, by simpa using h2, h3, h4, h5, ⟨h6.1, List.mem_cons_of_mem _ h6.2⟩, fun g hg => ?_, ?_⟩
        · simpa using F2.cons hm (h7 g hg)
        · simpa using F2.cons hm h8
    · simp only [cond_true]
      refine ⟨0, m, _, by simp, by simp, hm, rfl, hm.born, ⟨he, List.mem_cons_self⟩, fun g hg => ?_, by simpa using hr⟩
      simpa using F2.cons hg hr

theorem putM_born {k : AV} {f : AV → AV} : ∀ es : List Ent, (putM k f es).map (·.2.2) = es.map (·.2.2)
  | [] => rfl
  | (a, v, b) :: es => by
    simp only [putM]
    cases eqL k.cells a.cells <;> simp [putM_born es]
theorem delM_sub {k : List AC} : ∀ es : List Ent, (delM k es).Sublist es
  | [] => .slnil
  | (a, v, b) :: es => by
    simp only [delM]
    cases eqL k a.cells
    · exact (delM_sub es).cons_cons _
    · exact (List.Sublist.refl _).cons _
theorem bornM_born {v : AV} {b : Nat} : ∀ {es es' : List Ent}, bornM v b es = some es' → es'.map (·.2.2) = es.map (·.2.2)
  | [], _, h => by cases h
  | (a, u, b') :: es, es', h => by
    simp only [bornM] at h
    cases hb : (b' == b) with
    | true => rw [hb] at h; cases h; simp
    | false =>
      rw [hb] at h
      simp only [cond_false] at h
      split at h
      · rename_i r hr; cases h; simp [bornM_born hr]
      · cases h

/-- The same bits. -/
theorem bits_run {ks : Ksh} {t : TypeId} (hk : kshOk P ks t = true) {x y : AV} {vx vy : Value} (hx : RepV G x vx) (hy : RepV G y vy) (fx : fitsV ks x = true) (fy : fitsV ks y = true) (he : eqL x.cells y.cells = true) : Instr.sameBits 10000 vx vy = true := by
  obtain ⟨a1, a2, a3⟩ := fitsV_form hk hx fx
  obtain ⟨b1, b2, b3⟩ := fitsV_form hk hy fy
  have one : ∀ (d : Nat) (k : Kty) (a b : AC) (u v : Value), fitK k a = true → fitK k b = true → Rep G a u → Rep G b v → eqC a b = true → Instr.sameBits d u v = true := by
    intro d k a b u v ha hb ra rb hab
    cases k with
    | i k =>
      cases a <;> simp [fitK] at ha
      cases b <;> simp [fitK] at hb
      subst ha; subst hb
      cases ra; cases rb
      simp only [eqC, beq_iff_eq] at hab
      subst hab
      cases d <;> simp [Instr.sameBits]
    | s =>
      cases a <;> simp [fitK] at ha
      cases b <;> simp [fitK] at hb
      cases ra; cases rb
      simp only [eqC, beq_iff_eq] at hab
      subst hab
      cases d <;> simp [Instr.sameBits, beq_toListBytes]
    | b =>
      cases a <;> simp [fitK] at ha
      cases b <;> simp [fitK] at hb
      cases ra; cases rb
      simp only [eqC, beq_iff_eq] at hab
      subst hab
      cases d <;> simp [Instr.sameBits]
  simp only [fitsV, Bool.and_eq_true] at fx fy
  cases x with
  | any => simp [formOk] at fx
  | tup _ => simp [formOk] at fx
  | agg xs =>
    cases y with
    | any => simp [formOk] at fy
    | tup _ => simp [formOk] at fy
    | c b =>
      have h1 := fx.1; have h2 := fy.1
      simp only [formOk] at h1 h2
      rw [h1] at h2; cases h2
    | agg ys =>
      obtain ⟨vs, rfl, hvs⟩ := hx
      obtain ⟨us, rfl, hus⟩ := hy
      have hlen : vs.size = us.size := by
        have e1 := F2.length hvs
        have e2 := F2.length hus
        have e3 := fitsK_len a3
        have e4 := fitsK_len b3
        simp only [AV.cells, Array.length_toList] at e1 e2 e3 e4
        omega
      simp only [AV.cells] at he a3 b3
      have all : ∀ (ks : List Kty) (xs ys : List AC) (us vs : List Value), fitsK ks xs = true → fitsK ks ys = true → F2 (Rep G) xs us → F2 (Rep G) ys vs → eqL xs ys = true → ((us.zip vs).all fun (x, y) => Instr.sameBits 9999 x y) = true := by
        intro ks
        induction ks with
        | nil =>
          intro xs ys us vs h1 h2 h3 h4 h5
          have e1 := List.eq_nil_of_length_eq_zero (fitsK_len h1)
          subst e1
          cases h3
          simp
        | cons k ks ih =>
          intro xs ys us vs h1 h2 h3 h4 h5
          cases xs with
          | nil => simp [fitsK] at h1
          | cons x xs =>
            cases ys with
            | nil => simp [fitsK] at h2
            | cons y ys =>
              cases h3 with
              | cons p1 p2 =>
                cases h4 with
                | cons q1 q2 =>
                  simp only [fitsK, eqL, Bool.and_eq_true] at h1 h2 h5
                  simp only [List.zip_cons_cons, List.all_cons, Bool.and_eq_true]
                  exact ⟨one _ k x y _ _ h1.1 h2.1 p1 q1 h5.1, ih xs ys _ _ h1.2 h2.2 p2 q2 h5.2⟩
      have := all ks.2 xs ys vs.toList us.toList a3 b3 hvs hus he
      simp only [Instr.sameBits, hlen, beq_self_eq_true, Bool.true_and]
      exact this
  | c a =>
    cases y with
    | any => simp [formOk] at fy
    | tup _ => simp [formOk] at fy
    | agg b =>
      have h1 := fx.1; have h2 := fy.1
      simp only [formOk] at h1 h2
      rw [h2] at h1; cases h1
    | c b =>
      have fx2 := fx.2
      have fy2 := fy.2
      simp only [AV.cells] at fx2 fy2 he
      obtain ⟨k, hkk⟩ : ∃ k, ks.2 = [k] := by
        have := fitsK_len fx2
        generalize ks.2 = l at this
        match l, this with
        | [k], _ => exact ⟨k, rfl⟩
      rw [hkk] at fx2 fy2
      simp only [fitsK, Bool.and_true, eqL] at fx2 fy2 he
      exact one _ k a b _ _ fx2 fy2 hx hy he

theorem mapTy_some {t kt et : TypeId} (h : mapTy P t = some (kt, et)) : P.underlying t = some (.map kt et) := by
  unfold mapTy at h
  split at h
  · rename_i hu; cases h; exact hu
  · cases h
theorem zeroV_run {zero : AV} {t : TypeId} (h : zeroV P zero t = true) : ∃ z, (zeroValue t).run P w = .ok z w ∧ RepV G zero z := by
  unfold zeroV at h
  split at h
  · rename_i i hi
    split at h
    · rename_i z hz
      exact ⟨z, by simp [zeroValue, typeInfo, hi, hz], avOk_rep h⟩
    · cases h
  · cases h
theorem zeroV_one {zero : AV} {t : TypeId} (h : zeroV P zero t = true) : avOk1 zero = true := by
  unfold zeroV at h
  split at h
  · split at h
    · rename_i z hz
      unfold avOk at h
      split at h
      · rfl
      · rfl
      · cases h
    · cases h
  · cases h
theorem avOk1_E {x : AV} {v : Value} (h : avOk1 x = true) (hx : RepV G x v) : RepE G x v ∧ x ≠ .any := by
  cases x with
  | any => cases h
  | tup _ => cases h
  | c _ => exact ⟨hx, by simp⟩
  | agg _ => exact ⟨hx, by simp⟩
theorem fitsV_one {ks : Ksh} {x : AV} (h : fitsV ks x = true) : avOk1 x = true := by
  simp only [fitsV, Bool.and_eq_true] at h
  cases x <;> simp [formOk] at h <;> rfl

theorem lookR_rep {ok : Bool} {zero v : AV} {vv : Value} {b : Nat} (hv : RepE G v vv) : RepV G (lookR ok zero (some (v, b))) (if ok then .tuple #[vv, .bool true] else vv) := by
  cases ok
  · exact hv.toV
  · exact ⟨_, rfl, .cons hv (.cons rfl .nil)⟩
theorem lookR_none {ok : Bool} {zero : AV} {vv : Value} (hv : RepE G zero vv) : RepV G (lookR ok zero none) (if ok then .tuple #[vv, .bool false] else vv) := by
  cases ok
  · exact hv.toV
  · exact ⟨_, rfl, .cons hv (.cons rfl .nil)⟩

theorem lookup_ok (hi : Inv G h w) {ok : Bool} {ks : Ksh} {zero : AV} {t kt et : TypeId} (ht : mapTy P t = some (kt, et)) (hk : kshOk P ks kt = true) (hz : zeroV P zero et = true) {x k : AV} {vx vk : Value} (hx : RepV G x vx) (hkv : RepV G k vk)
    {c : Prop} {v : AV} (hv : lookV ok ks zero h x k = some (c, v)) (hc : c) : ∃ cv, (Instr.lookup t vx vk ok).run P w = .ok cv w ∧ RepV G v cv := by
  obtain ⟨z, hz1, hz2⟩ := zeroV_run (P := P) (G := G) (w := w) hz
  have hzE := (avOk1_E (zeroV_one hz) hz2).1
  unfold lookV at hv
  split at hv
  · cases hv
    have hx : vx = .map none := hx
    subst hx
    refine ⟨_, ?_, lookR_none (ok := ok) hzE⟩
    have h1 := keyOk_run (w := w) hk true hkv hc
    have h2 := findKey_run (w := w) (G := G) hk hkv hc (es := []) (en := []) .nil rfl
    simp only [Instr.lookup, Sem.run_bind, run_underlying (mapTy_some ht), Result.andThen_ok, Sem.run_pure]
    simp only [show (#[] : Array MapEntry).isEmpty = true from rfl, h1, Result.andThen_ok, h2, findIx, hz1, Sem.run_bind, Sem.run_pure]
  · rename_i id
    split at hv
    · rename_i es ck hid
      cases hv
      obtain ⟨pl, h1, h2⟩ := hx
      subst h2
      obtain ⟨pl', h3, en, h4, h5, _⟩ := hi.obj _ _ hid
      rw [h1] at h3; cases h3
      have g1 := keyOk_run (w := w) hk en.isEmpty hkv hc.1
      have g2 := findKey_run (w := w) hk hkv hc.1 h5 hc.2
      have g3 := findIx_some (k := k) (f := fun v => v) es en.toList 0 h5
      have g0 := MapKept.run_getObj_map (P := P) h4
      simp only [Instr.lookup, Sem.run_bind, run_underlying (mapTy_some ht), Result.andThen_ok, g0, Sem.run_pure, g1, g2]
      split at g3
      · rename_i hn
        rw [hn, g3]
        refine ⟨_, ?_, lookR_none (ok := ok) hzE⟩
        simp only [Sem.run_bind, hz1, Result.andThen_ok, Sem.run_pure]
      · rename_i v b hn
        obtain ⟨j, m, e, q1, q2, q3, q4, q5, _⟩ := g3
        rw [hn, q1]
        have hE : RepE G v m.val := by rw [← q4]; exact q3.val
        refine ⟨_, ?_, lookR_rep (ok := ok) hE⟩
        simp only [Sem.run_pure, Result.andThen_ok, Sem.run_bind]
    · cases hv
  · cases hv


end
end Go.Ab
