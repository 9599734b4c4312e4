/- Slices of slices, aggregates and rows that are built. -/
import Derived.Test.YtdbaldohbjnlpaaGreatAb5
import Derived.Great.BuildSlice
import Derived.Laws.BytesString
set_option linter.unusedVariables false
set_option linter.unusedSimpArgs false
namespace Go.Ab
section
variable {P : Program} {G : Ghost} {h : Heap} {w : World} {nt : Nat} {env : Env} {a : Act}

theorem sl_cases {sz : Nat} {es : List (List AC)} {k : Cp} {v : Value} (hx : Rep G (.sl sz es k) v) :
    ∃ a cap, v = .slice a es.length cap ∧ es.length ≤ cap ∧ (es = [] ∨ ∃ b o, a = some ⟨b, o, none⟩ ∧ SealRow G b o sz es) := by
  cases k with
  | nil => obtain ⟨rfl, rfl⟩ := hx; exact ⟨_, _, rfl, by simp, .inl rfl⟩
  | none =>
    rcases hx with ⟨b, o, cap, rfl, h1, h2⟩ | ⟨rfl, b, cap, rfl⟩
    · exact ⟨_, _, rfl, h1, .inr ⟨b, o, rfl, h2⟩⟩
    · exact ⟨_, _, rfl, by simp, .inl rfl⟩
  | full =>
    rcases hx with ⟨b, o, rfl, h2⟩ | ⟨rfl, b, rfl⟩
    · exact ⟨_, _, rfl, Nat.le_refl _, .inr ⟨b, o, rfl, h2⟩⟩
    · exact ⟨_, _, rfl, by simp, .inl rfl⟩
  | tok i =>
    obtain ⟨pl, _, h2, h3, _, rfl, h4⟩ := hx
    rw [← h2] at h3 ⊢
    exact ⟨_, _, rfl, h3, .inr ⟨_, _, rfl, h4⟩⟩

theorem SealRow.drop {b o sz : Nat} {es : List (List AC)} (h : SealRow G b o sz es) (l : Nat) : SealRow G b (o + l * sz) sz (es.drop l) := by
  intro i e he
  rw [List.getElem?_drop] at he
  obtain ⟨h1, h2⟩ := h _ _ he
  refine ⟨h1, fun j x hx => ?_⟩
  have := h2 j x hx
  rwa [Nat.add_mul, ← Nat.add_assoc] at this

theorem SealRow.take {b o sz : Nat} {es : List (List AC)} (h : SealRow G b o sz es) (l : Nat) : SealRow G b o sz (es.take l) := by
  intro i e he
  rw [List.getElem?_take] at he
  split at he
  · exact h _ _ he
  · cases he

theorem sliceBound_run {k : IntKind} {n : Nat} {y : Nat} {code : BoundsCode} (h1 : n ≤ y) : (Instr.sliceBound (.int k n) y code).run P w = .ok n w := by
  have h2 : (n : Int) ≤ (y : Int) := by omega
  simp [Instr.sliceBound, asIntOf, h2]

theorem sliceBounds_run (isS : Bool) {len cap : Nat} {lo hi mx : Option Value} {l u m : Nat} (hm : (mx = none ∧ m = cap) ∨ ∃ k, mx = some (.int k m) ∧ m ≤ cap ∧ hi ≠ none)
    (hu : (hi = none ∧ u = len) ∨ ∃ k, hi = some (.int k u) ∧ u ≤ m) (hl : (lo = none ∧ l = 0) ∨ ∃ k, lo = some (.int k l) ∧ l ≤ u) :
    (Instr.sliceBounds isS len cap lo hi mx).run P w = .ok (l, u, m) w := by
  unfold Instr.sliceBounds
  rcases hm with ⟨rfl, rfl⟩ | ⟨km, rfl, hm1, hm2⟩ <;> rcases hu with ⟨rfl, rfl⟩ | ⟨ku, rfl, hu1⟩ <;> rcases hl with ⟨rfl, rfl⟩ | ⟨kl, rfl, hl1⟩
  · simp
  · simp [sliceBound_run hl1]
  · simp [sliceBound_run hu1]
  · simp [sliceBound_run hl1, sliceBound_run hu1]
  · exact absurd rfl hm2
  · exact absurd rfl hm2
  · simp [sliceBound_run hu1, sliceBound_run hm1]
  · simp [sliceBound_run hl1, sliceBound_run hu1, sliceBound_run hm1]

theorem groups_get (sz : Nat) : ∀ (n : Nat) (cs : List AC) (i : Nat), (groups sz n cs)[i]? = if i < n then some ((cs.drop (i * sz)).take sz) else none
  | 0, cs, i => by simp [groups]
  | n + 1, cs, i => by
    cases i with
    | zero => simp [groups]
    | succ i =>
      simp only [groups, List.getElem?_cons_succ, groups_get sz n _ i, Nat.add_lt_add_iff_right, List.drop_drop]
      congr 4
      rw [Nat.add_mul]; omega
theorem groups_length (sz : Nat) : ∀ (n : Nat) (cs : List AC), (groups sz n cs).length = n
  | 0, _ => rfl
  | n + 1, cs => by simp [groups, groups_length sz n]

/-- A row of cells, told element by element. -/
theorem row_groups {G : Ghost} {b o sz n : Nat} {cs : List AC} (hl : n * sz ≤ cs.length) (hc : ∀ (j : Nat) (x : AC), cs[j]? = some x → G.fx b (o + j) x) : SealRow G b o sz (groups sz n cs) := by
  intro i e he
  rw [groups_get] at he
  split at he
  · cases he
    rename_i hi
    have h1 : i * sz + sz ≤ n * sz := by rw [← Nat.succ_mul]; exact Nat.mul_le_mul_right _ hi
    refine ⟨by simp only [List.length_take, List.length_drop]; omega, fun j x hx => ?_⟩
    rw [List.getElem?_take] at hx
    split at hx
    · rw [List.getElem?_drop] at hx
      have := hc _ _ hx
      rwa [← Nat.add_assoc] at this
    · cases hx
  · cases he

/-! Building -/
theorem foldl_set (off : Nat) : ∀ (vs : List Value) (k : Nat) (cells : Array Value), off + k + vs.length ≤ cells.size →
    ((vs.zipIdx k).foldl (fun cs (x : Value × Nat) => cs.setIfInBounds (off + x.2) x.1) cells).toList = cells.toList.take (off + k) ++ vs ++ cells.toList.drop (off + k + vs.length)
  | [], k, cells, _ => by simp
  | v :: vs, k, cells, h => by
    simp only [List.zipIdx_cons, List.foldl_cons]
    have hk : off + k < cells.size := by simp at h; omega
    rw [foldl_set off vs (k + 1) _ (by simp at h ⊢; omega)]
    simp only [Array.toList_setIfInBounds, List.length_cons]
    have e1 : off + (k + 1) = off + k + 1 := by omega
    rw [e1]
    have hk' : off + k < cells.toList.length := by simpa using hk
    rw [List.drop_set_of_lt (by omega)]
    rw [List.take_succ_eq_append_getElem (by simpa using hk), List.take_set_of_le (by omega)]
    simp only [List.getElem_set_self, List.append_assoc, List.cons_append, List.nil_append]
    congr 4
    omega

theorem lay_told {G : Ghost} {cs xs : List AC} {cells : List Value} {vs : List Value} (h : F2 (Rep G) cs cells) (hx : F2 (Rep G) xs vs) (off : Nat) : F2 (Rep G) (lay cs off xs) (cells.take off ++ vs ++ cells.drop (off + vs.length)) := by
  unfold lay
  rw [F2.length hx]
  exact ((h.take off).append hx).append (h.drop _)

theorem lay_length {cs xs : List AC} {off : Nat} (h : off + xs.length ≤ cs.length) : (lay cs off xs).length = cs.length := by
  unfold lay; simp; omega

/-- The parts that are laid: places, sizes, values. -/
def PartsRep (G : Ghost) (env : Env) (place : Nat → Option (Nat × Nat)) : List (Nat × Value) → List (Nat × Nat × Opd) → Prop
  | [], [] => True
  | (i, v) :: r, (off, sz, x) :: r' => place i = some (off, sz) ∧ 0 < sz ∧ RepV G (x.ev env) v ∧ PartsRep G env place r r'
  | _, _ => False

theorem fill_told {place : Nat → Option (Nat × Nat)} : ∀ (parts : List (Nat × Value)) (ps : List (Nat × Nat × Opd)) (cells : Array Value) (cs : List AC),
    F2 (Rep G) cs cells.toList → PartsRep G env place parts ps → fillsOk env cs.length ps → ∃ cells', Instr.fill place cells parts = some cells' ∧ F2 (Rep G) (fills env cs ps) cells'.toList
  | [], [], cells, cs, h, _, _ => ⟨cells, rfl, h⟩
  | (i, v) :: r, (off, sz, x) :: r', cells, cs, h, ⟨h1, h2, h3, h4⟩, ⟨h5, h6, h7⟩ => by
    have hE : RepE G (x.ev env) v := by
      cases e : x.ev env with
      | tup xs => rw [e] at h5; simp [AV.cells] at h5; omega
      | any => trivial
      | c y => rw [e] at h3; exact h3
      | agg ys => rw [e] at h3; exact h3
    have hc := hE.cells (by intro e; rw [e] at h5; simp [AV.cells] at h5; omega)
    have hl : v.cells.size = sz := by have := F2.length hc; simp at this; omega
    have hcs := F2.length h
    have e0 : cells.size = cs.length := by simpa using hcs.symm
    obtain ⟨cells', h8, h9⟩ := fill_told (place := place) r r' (v.cells.zipIdx.foldl (fun cs (x : Value × Nat) => cs.setIfInBounds (off + x.2) x.1) cells) (lay cs off (x.ev env).cells)
      (by
        have := foldl_set off v.cells.toList 0 cells (by simp; omega)
        rw [← Array.foldl_toList]
        simp only [Array.toList_zipIdx]
        rw [this]
        exact lay_told h hc off) h4 (by rw [lay_length (by omega)]; exact h7)
    refine ⟨cells', ?_, h9⟩
    unfold Instr.fill
    simp only [h1, hl]
    rw [if_neg (by simp; omega)]
    exact h8
  | [], _ :: _, _, _, _, h, _ => h.elim
  | _ :: _, [], _, _, _, h, _ => h.elim

theorem partsOk_rep (he : EnvRep G nt env a) {fs : Array Field} {pl : List (Nat × Nat)} (hpl : fs.toList.mapM (fun f => (P.info? f.type).map fun i => (f.offset, i.size)) = some pl) :
    ∀ (parts : List (Nat × Operand)) (ps : List (Nat × Nat × Opd)), partsOk P fs parts ps = true → PartsRep G env (pl.toArray[·]?) (parts.map fun p => (p.1, a.eval p.2)) ps
  | [], [], _ => trivial
  | (i, x) :: r, (off, sz, y) :: r', h => by
    simp only [partsOk, Bool.and_eq_true] at h
    obtain ⟨⟨h1, h2⟩, h3⟩ := h
    split at h2
    · rename_i f hf
      simp only [Bool.and_eq_true, beq_iff_eq, decide_eq_true_eq] at h2
      obtain ⟨⟨rfl, h4⟩, h5⟩ := h2
      obtain ⟨inf, h6, h7⟩ := szOk_some h4
      refine ⟨?_, h5, opd_rep he h1, partsOk_rep he hpl r r' h3⟩
      have hf' : fs.toList[i]? = some f := by simpa using hf
      have : ∀ (l : List Field) (pl : List (Nat × Nat)), l.mapM (fun f => (P.info? f.type).map fun i => (f.offset, i.size)) = some pl → ∀ i : Nat, l[i]? = some f → pl[i]? = some (f.offset, sz) := by
        intro l
        induction l with
        | nil => intro pl _ i hi; simp at hi
        | cons g l ih =>
          intro pl hp i hi
          simp only [List.mapM_cons, Option.bind_eq_bind, Option.pure_def] at hp
          cases hg : P.info? g.type with
          | none => simp [hg] at hp
          | some ig =>
            cases hr : l.mapM (fun f => (P.info? f.type).map fun i => (f.offset, i.size)) with
            | none => simp [hg, hr] at hp
            | some rest =>
              simp [hg, hr] at hp
              subst hp
              cases i with
              | zero => simp at hi; subst hi; rw [h6] at hg; cases hg; simp [h7]
              | succ i => simp at hi ⊢; exact ih rest hr i hi
      simpa using this _ _ hpl i hf'
    · cases h2
  | [], _ :: _, h => by simp [partsOk] at h
  | _ :: _, [], h => by simp [partsOk] at h

theorem rowParts_rep (he : EnvRep G nt env a) {sz : Nat} : ∀ (parts : List (Nat × Operand)) (ps : List (Nat × Nat × Opd)), rowPartsOk sz parts ps = true →
    PartsRep G env (fun i => some (i * sz, sz)) (parts.map fun p => (p.1, a.eval p.2)) ps
  | [], [], _ => trivial
  | (i, x) :: r, (off, s, y) :: r', h => by
    simp only [rowPartsOk, Bool.and_eq_true, beq_iff_eq, decide_eq_true_eq] at h
    obtain ⟨⟨⟨⟨h1, rfl⟩, rfl⟩, h2⟩, h3⟩ := h
    exact ⟨rfl, h2, opd_rep he h1, rowParts_rep he r r' h3⟩
  | [], _ :: _, h => by simp [rowPartsOk] at h
  | _ :: _, [], h => by simp [rowPartsOk] at h

theorem zeroOk_some {zero : List AC} {t : TypeId} (h : zeroOk P zero t = true) : ∃ i z, P.info? t = some i ∧ i.zero = some z ∧ ∀ G, F2 (Rep G) zero z.cells.toList := by
  unfold zeroOk at h
  split at h
  · rename_i i hi
    split at h
    · rename_i z hz; exact ⟨i, z, hi, hz, fun G => acsOk_rep h⟩
    · cases h
  · cases h

theorem build_ok (he : EnvRep G nt env a) {zero : List AC} {ps : List (Nat × Nat × Opd)} {t : TypeId} {parts : Array (Nat × Operand)}
    (hk : opOk P (.build zero ps) (.build t parts) = true) (hc : fillsOk env zero.length ps) :
    ∃ cv, (Instr.build t (parts.map fun (i, x) => (i, a.eval x))).run P w = .ok cv w ∧ RepV G (.agg (fills env zero ps)) cv := by
  simp only [opOk, Bool.and_eq_true] at hk
  obtain ⟨h1, h2⟩ := hk
  obtain ⟨i, z, h3, h4, h5⟩ := zeroOk_some h1
  have hmap : (parts.map fun (i, x) => (i, a.eval x)).toList = parts.toList.map fun p => (p.1, a.eval p.2) := by simp
  split at h2
  · rename_i fs hu
    simp only [Bool.and_eq_true] at h2
    obtain ⟨h6, h7⟩ := h2
    have hpl : ∃ pl, fs.toList.mapM (fun f => (P.info? f.type).map fun i => (f.offset, i.size)) = some pl := by
      have : ∀ l : List Field, l.all (fun f => (P.info? f.type).isSome) = true → ∃ pl, l.mapM (fun f => (P.info? f.type).map fun i => (f.offset, i.size)) = some pl := by
        intro l
        induction l with
        | nil => intro _; exact ⟨[], rfl⟩
        | cons g l ih =>
          intro h
          simp only [List.all_cons, Bool.and_eq_true] at h
          obtain ⟨ig, hg⟩ := Option.isSome_iff_exists.1 h.1
          obtain ⟨pl, hp⟩ := ih h.2
          exact ⟨_, by simp [List.mapM_cons, hg, hp]; rfl⟩
      exact this _ h6
    obtain ⟨pl, hpl⟩ := hpl
    obtain ⟨cells', h8, h9⟩ := fill_told (place := (pl.toArray[·]?)) _ ps z.cells zero (h5 G) (partsOk_rep he hpl _ _ h7) hc
    refine ⟨.agg cells', run_build w t _ cells' ?_, cells', rfl, h9⟩
    unfold Program.built
    rw [hmap]
    simp only [h3, hu, h4, hpl]
    exact h8
  · rename_i n e hu
    split at h2
    · rename_i ie hie
      obtain ⟨cells', h8, h9⟩ := fill_told (place := fun i => some (i * ie.size, ie.size)) _ ps z.cells zero (h5 G) (rowParts_rep he _ _ h2) hc
      refine ⟨.agg cells', run_build w t _ cells' ?_, cells', rfl, h9⟩
      unfold Program.built
      rw [hmap]
      simp only [h3, hu, h4, hie]
      exact h8
    · cases h2
  · cases h2

end
end Go.Ab
