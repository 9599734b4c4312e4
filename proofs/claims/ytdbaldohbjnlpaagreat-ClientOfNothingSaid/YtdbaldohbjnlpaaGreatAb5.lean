/- What floating operations do in a world: each. -/
import Derived.Test.YtdbaldohbjnlpaaGreatAb4
set_option linter.unusedVariables false
set_option linter.unusedSimpArgs false
namespace Go.Ab
section
variable {P : Program} {G : Ghost} {h : Heap} {w : World} {nt : Nat} {env : Env} {a : Act}

/-- What a reading operation comes to. -/
def Gives (P : Program) (G : Ghost) (w : World) (s : Sem Value) (v : AV) : Prop := ∃ cv, s.run P w = .ok cv w ∧ RepV G v cv

theorem F2.getE {G : Ghost} {xs : List AV} {vs : Array Value} (hr : F2 (RepE G) xs vs.toList) {i : Nat} {v : AV} (hv : xs[i]? = some v) : ∃ y, vs[i]? = some y ∧ RepE G v y := by
  obtain ⟨y, h1, h2⟩ := F2.get hr i v hv
  exact ⟨y, by simpa using h1, h2⟩

theorem loadCells_run {cs : List Value} {b o : Nat} (hc : ∀ j v, cs[j]? = some v → w.cell? ⟨b, o + j, none⟩ = some v) : (loadCells ⟨b, o, none⟩ cs.length).run P w = .ok cs.toArray w :=
  run_loadCells_list w _ cs (fun j v hv => by rw [add_off]; exact hc j v hv)

/-- Cells that are told, as a list of values. -/
theorem told {b o : Nat} : ∀ {cs : List AC}, (∀ (j : Nat) (x : AC), cs[j]? = some x → ∃ v, w.cell? ⟨b, o + j, none⟩ = some v ∧ Rep G x v) →
    ∃ vs : List Value, F2 (Rep G) cs vs ∧ ∀ (j : Nat) (v : Value), vs[j]? = some v → w.cell? ⟨b, o + j, none⟩ = some v := by
  intro cs hc
  induction cs generalizing o with
  | nil => exact ⟨[], .nil, fun j v h => by simp at h⟩
  | cons c cs ih =>
    obtain ⟨v, h1, h2⟩ := hc 0 c (by simp)
    obtain ⟨vs, h3, h4⟩ := ih (o := o + 1) (fun j x hx => by
      obtain ⟨v, h5, h6⟩ := hc (j + 1) x (by simpa using hx)
      exact ⟨v, by rw [← h5]; congr 2; omega, h6⟩)
    refine ⟨v :: vs, .cons h2 h3, fun j u hu => ?_⟩
    cases j with
    | zero => simp at hu; subst hu; exact h1
    | succ j => simp at hu; rw [← h4 j u hu]; congr 2; omega

/-- A variable is read whose cells are told. -/
theorem load_run {ag : Bool} {sz : Nat} {t : TypeId} (ht : tyOk P ag sz t = true) {b o : Nat} {cs : List AC} (hc : ∀ (j : Nat) (x : AC), cs[j]? = some x → ∃ v, w.cell? ⟨b, o + j, none⟩ = some v ∧ Rep G x v)
    {off : Nat} {c : Prop} {v : AV} (hv : part ag sz cs off = some (c, v)) (hp : c) : ∃ cv, (loadVar t ⟨b, o + off, none⟩).run P w = .ok cv w ∧ RepE G v cv := by
  simp only [tyOk, Bool.and_eq_true] at ht
  obtain ⟨h1, h2⟩ := ht
  cases hi : P.info? t with
  | none => rw [hi] at h2; cases h2
  | some i =>
    rw [hi] at h2
    simp at h2
    unfold part at hv
    cases ag with
    | true =>
      simp only [if_true, Option.some.injEq, Prod.mk.injEq] at hv
      obtain ⟨rfl, rfl⟩ := hv
      have hg : (isAgg t).run P w = .ok true w := by
        unfold isAgg
        split at h1
        · rename_i hu; simp [run_underlying hu]
        · rename_i hu; simp [run_underlying hu]
        · simp at h1
        · cases h1
      obtain ⟨vs, h3, h4⟩ := told (G := G) (w := w) (b := b) (o := o + off) (cs := (cs.drop off).take sz) (fun j x hx => by
        rw [List.getElem?_take] at hx
        split at hx
        · rw [List.getElem?_drop] at hx
          obtain ⟨v, h5, h6⟩ := hc _ _ hx
          exact ⟨v, by rw [← h5]; congr 2; omega, h6⟩
        · cases hx)
      have hl : vs.length = sz := by
        rw [← F2.length h3, List.length_take, List.length_drop]
        omega
      refine ⟨.agg vs.toArray, ?_, ⟨_, rfl, by simpa using h3⟩⟩
      have h5 := loadCells_run (P := P) (w := w) (cs := vs) h4
      rw [hl] at h5
      simp [loadVar, hg, sizeOf, typeInfo, hi, h2, h5]
    | false =>
      simp only [Bool.false_eq_true, if_false] at hv
      split at hv
      · rename_i x hx
        cases hv
        obtain ⟨y, hy, hrep⟩ := hc _ _ hx
        have hg : (isAgg t).run P w = .ok false w := by
          unfold isAgg
          split at h1
          · simp at h1
          · simp at h1
          · rename_i d hn1 hn2 hu
            rw [Sem.run_bind, run_underlying hu]
            simp only [Result.andThen_ok]
            rfl
          · cases h1
        exact ⟨y, by simp [loadVar, hg, hy], hrep⟩
      · cases hv

theorem load_ok (hi : Inv G h w) {ag : Bool} {sz : Nat} {t : TypeId} (ht : tyOk P ag sz t = true) {x : AV} {vx : Value} (hx : RepV G x vx) {c : Prop} {v : AV}
    (hv : ldV ag sz h x = some (c, v)) (hc : c) : ∃ cv, (Instr.loadAt t vx).run P w = .ok cv w ∧ RepE G v cv := by
  unfold ldV at hv
  split at hv
  · obtain ⟨b, o, rfl, hs⟩ := hx
    obtain ⟨cv, h1, h2⟩ := load_run (P := P) (G := G) (w := w) ht (b := b) (o := o) (fun j x hx => hi.fx _ _ _ (hs j x hx)) hv hc
    exact ⟨cv, by simpa [Instr.loadAt, Instr.sureAddr] using h1, h2⟩
  · rename_i id i off
    split at hv
    · rename_i es he
      split at hv
      · rename_i e hei
        obtain ⟨pl, h1, rfl⟩ := hx
        obtain ⟨pl', h2, h3, h4, cs, el, fr, h5, h6, h7, h8⟩ := hi.obj id _ he
        rw [h1] at h2; cases h2
        obtain ⟨cv, h9, h10⟩ := load_run (P := P) (G := G) (w := w) ht (b := pl.blk) (o := i * pl.sz) (fun j x hx => by
          obtain ⟨v, h11, h12⟩ := (h8 i e hei).2 j x hx
          exact ⟨v, by simp [World.cell?, h5, h11], h12⟩) hv hc
        exact ⟨cv, by simpa [Instr.loadAt, Instr.sureAddr] using h9, h10⟩
      · cases hv
    · cases hv
  · cases hv

theorem len_ok (hi : Inv G h w) {t e : TypeId} (ht : P.underlying t = some (.slice e)) {x : AV} {vx : Value} (hx : RepV G x vx) {c : Prop} {v : AV} (hv : lenV h x = some (c, v)) {ty : TypeId} :
    ∃ cv, (Builtin.len_ #[t] ty #[vx]).run P w = .ok cv w ∧ RepE G v cv := by
  unfold lenV at hv
  split at hv
  · cases hv
    rename_i sz es k
    have : ∃ b cap, vx = .slice b es.length cap := by
      cases k with
      | nil => obtain ⟨rfl, rfl⟩ := hx; exact ⟨_, _, rfl⟩
      | none => rcases hx with ⟨b, o, cap, rfl, _⟩ | ⟨rfl, b, cap, rfl⟩ <;> exact ⟨_, _, rfl⟩
      | full => rcases hx with ⟨b, o, rfl, _⟩ | ⟨rfl, b, rfl⟩ <;> exact ⟨_, _, rfl⟩
      | tok i => obtain ⟨pl, _, h2, _, _, rfl, _⟩ := hx; rw [h2]; exact ⟨_, _, rfl⟩
    obtain ⟨b, cap, rfl⟩ := this
    exact ⟨_, by simp [Builtin.len_, run_underlying ht, goInt], rfl⟩
  · split at hv
    · cases hv
      rename_i es he
      obtain ⟨pl, h1, rfl⟩ := hx
      obtain ⟨pl', h2, h3⟩ := hi.obj _ _ he
      rw [h1] at h2; cases h2
      refine ⟨_, by simp [Builtin.len_, run_underlying ht, goInt]; rfl, ?_⟩
      show Value.int _ _ = Value.int _ _
      rw [h3.1]
    · cases hv
  · cases hv
    obtain ⟨pl, _, ⟨cap, rfl, _⟩ | ⟨rfl, ad, cap, rfl, _⟩⟩ := hx
    · exact ⟨_, by simp [Builtin.len_, run_underlying ht, goInt], rfl⟩
    · exact ⟨_, by simp [Builtin.len_, run_underlying ht, goInt], rfl⟩
  · cases hv
    obtain ⟨pl, _, ⟨cap, rfl, _⟩ | ⟨rfl, ad, cap, rfl⟩⟩ := hx
    · exact ⟨_, by simp [Builtin.len_, run_underlying ht, goInt], rfl⟩
    · exact ⟨_, by simp [Builtin.len_, run_underlying ht, goInt], rfl⟩
  · cases hv

theorem mlen_ok (hi : Inv G h w) {t : TypeId} (ht : isMap P t = true) {x : AV} {vx : Value} (hx : RepV G x vx) {c : Prop} {v : AV} (hv : mlenV h x = some (c, v)) {ty : TypeId} :
    ∃ cv, (Builtin.len_ #[t] ty #[vx]).run P w = .ok cv w ∧ RepE G v cv := by
  unfold isMap at ht
  split at ht
  · rename_i hu
    unfold mlenV at hv
    split at hv
    · cases hv; cases hx
      exact ⟨_, by simp [Builtin.len_, run_underlying hu, goInt], rfl⟩
    · split at hv
      · cases hv
        rename_i es clock he
        obtain ⟨pl, h1, rfl⟩ := hx
        obtain ⟨pl', h2, en, h3, h4, h5⟩ := hi.obj _ _ he
        rw [h1] at h2; cases h2
        refine ⟨.int .i64 en.size, by simp [Builtin.len_, run_underlying hu, goInt, getObj, Sem.run, h3], ?_⟩
        show Value.int _ _ = Value.int _ _
        rw [F2.length h4]; simp
      · cases hv
    · cases hv
  · cases ht

theorem iadr_ok (hi : Inv G h w) {sz : Nat} {t e : TypeId} (ht : P.underlying t = some (.slice e)) (hs : szOk P sz e = true) {x i : AV} {vx vi : Value} (hx : RepV G x vx) (hxi : RepV G i vi) {c : Prop} {v : AV}
    (hv : iadrV sz h x i = some (c, v)) (hc : c) : ∃ cv, (Instr.indexAt t vx vi).run P w = .ok cv w ∧ RepE G v cv := by
  unfold iadrV at hv
  split at hv
  · cases hv
    rename_i sz' es k ki n
    cases hxi
    obtain ⟨rfl, h0, h1⟩ := hc
    have hne : es ≠ [] := by rintro rfl; simp at h1; omega
    have key : ∃ b o cap, vx = .slice (some ⟨b, o, none⟩) es.length cap ∧ SealRow G b o sz' es := by
      cases k with
      | nil => exact absurd hx.1 hne
      | none => rcases hx with ⟨b, o, cap, rfl, _, h⟩ | ⟨h, _⟩; exact ⟨_, _, _, rfl, h⟩; exact absurd h hne
      | full => rcases hx with ⟨b, o, rfl, h⟩ | ⟨h, _⟩; exact ⟨_, _, _, rfl, h⟩; exact absurd h hne
      | tok j => obtain ⟨pl, _, h2, _, _, rfl, h⟩ := hx; rw [← h2]; exact ⟨_, _, _, rfl, h⟩
    obtain ⟨b, o, cap, rfl, hrow⟩ := key
    refine ⟨.pointer (some ⟨b, o + n.toNat * sz', none⟩), ?_, ⟨b, _, rfl, fun j x hx => ?_⟩⟩
    · simp [Instr.indexAt, asIntOf, run_underlying ht, h0, h1, sizeOf_run hs, add_off]
    · have hlt : n.toNat < es.length := by omega
      have : es[n.toNat]? = some (es.getD n.toNat []) := by simp [List.getD, List.getElem?_eq_getElem hlt]
      exact (hrow _ _ this).2 j x hx
  · rename_i id ki n
    split at hv
    · cases hv
      rename_i es he
      cases hxi
      obtain ⟨h9, h0, h1⟩ := hc
      obtain ⟨pl, h2, rfl⟩ := hx
      obtain ⟨pl', h3, h4, h5, cs, el, fr, h6, h7, h8, h10⟩ := hi.obj _ _ he
      rw [h2] at h3; cases h3
      have hlt : n.toNat < es.length := by omega
      have hsz : pl.sz = sz := by
        have h11 := (h10 n.toNat _ (List.getElem?_eq_getElem hlt)).1
        have h12 := List.all_eq_true.1 h9 _ (List.getElem_mem hlt)
        simp at h12
        omega
      refine ⟨.pointer (some ⟨pl.blk, n.toNat * pl.sz + 0, none⟩), ?_, ⟨pl, h2, rfl⟩⟩
      rw [h4] at h1
      simp [Instr.indexAt, asIntOf, run_underlying ht, h0, h1, sizeOf_run hs, add_off, hsz]
    · cases hv
  · rename_i id lo m f ki n
    split at hv
    · cases hv
      rename_i es he
      cases hxi
      obtain ⟨h9, hlo, h0, h1⟩ := hc
      obtain ⟨pl, h2, hx2⟩ := hx
      obtain ⟨pl', h3, h4, h5, cs, el, fr, h6, h7, h8, h10⟩ := hi.obj _ _ he
      rw [h2] at h3; cases h3
      have hlt : n.toNat < es.length := by omega
      have hsz : pl.sz = sz := by
        have h11 := (h10 n.toNat _ (List.getElem?_eq_getElem hlt)).1
        have h12 := List.all_eq_true.1 h9 _ (List.getElem_mem hlt)
        simp at h12
        omega
      rcases hx2 with ⟨cap, rfl, _⟩ | ⟨rfl, ad, cap, rfl, _⟩
      · refine ⟨.pointer (some ⟨pl.blk, (lo + n.toNat) * pl.sz + 0, none⟩), ?_, ⟨pl, h2, rfl⟩⟩
        simp [Instr.indexAt, asIntOf, run_underlying ht, h0, h1, sizeOf_run hs, add_off, hsz, Nat.add_mul]
      · exfalso; simp at h1; omega
    · cases hv
  · cases hv
    rename_i id i0 off sz' m ki n
    cases hxi
    obtain ⟨rfl, h0, h1⟩ := hc
    obtain ⟨pl, h2, hx2⟩ := hx
    rcases hx2 with ⟨cap, rfl, _⟩ | ⟨rfl, ad, cap, rfl⟩
    · refine ⟨.pointer (some ⟨pl.blk, i0 * pl.sz + (off + n.toNat * sz'), none⟩), ?_, ⟨pl, h2, rfl⟩⟩
      simp [Instr.indexAt, asIntOf, run_underlying ht, h0, h1, sizeOf_run hs, add_off, Nat.add_assoc]
    · exfalso; simp at h1; omega
  · cases hv

end
end Go.Ab
