/- What floating operations do in a world. -/
import Derived.Test.YtdbaldohbjnlpaaGreatAb3
import Derived.Laws.Entries
import Derived.Laws.Strings2
import Derived.ChangeKeysEq
set_option linter.unusedVariables false
set_option linter.unusedSimpArgs false
namespace Go.Ab

/-- Of what was there nothing has turned. -/
structure Same (w w' : World) : Prop where
  os : w'.os = w.os
  tape : w'.tape = w.tape
  output : w'.output = w.output
  size : w.heap.size ≤ w'.heap.size
  block : ∀ b, b < w.heap.size → w'.heap[b]? = w.heap[b]?

theorem Same.refl (w : World) : Same w w := ⟨rfl, rfl, rfl, Nat.le_refl _, fun _ _ => rfl⟩
theorem Same.alloc (w : World) (o : Obj) : Same w { w with heap := w.heap.push o } :=
  ⟨rfl, rfl, rfl, by simp, fun b hb => by simp only [Array.getElem?_push]; rw [if_neg (by omega)]⟩
theorem Same.drew (w : World) : Same w { w with drawn := w.drawn + 1 } := ⟨rfl, rfl, rfl, Nat.le_refl _, fun _ _ => rfl⟩
theorem Same.trans {a b c : World} (h : Same a b) (k : Same b c) : Same a c :=
  ⟨k.os.trans h.os, k.tape.trans h.tape, k.output.trans h.output, Nat.le_trans h.size k.size, fun i hi => (k.block i (Nat.lt_of_lt_of_le hi h.size)).trans (h.block i hi)⟩

theorem block_lt {w : World} {b : Nat} {o : Obj} (h : w.heap[b]? = some o) : b < w.heap.size := (Array.getElem?_eq_some_iff.1 h).1
theorem cell_lt {w : World} {b o : Nat} {v : Value} (h : w.cell? ⟨b, o, none⟩ = some v) : b < w.heap.size := by
  unfold World.cell? at h
  cases e : w.heap[b]? with
  | none => simp [e] at h
  | some x => exact block_lt e
theorem cell_same {w w' : World} {b : Nat} (h : w'.heap[b]? = w.heap[b]?) (o : Nat) : w'.cell? ⟨b, o, none⟩ = w.cell? ⟨b, o, none⟩ := by
  unfold World.cell?; simp only [h]

theorem ObjOk.of_block {G G' : Ghost} (hG : G.Le G') {w w' : World} {pl : Place} {ob : AObj} (h : ObjOk G w pl ob) (hb : w'.heap[pl.blk]? = w.heap[pl.blk]?) : ObjOk G' w' pl ob := by
  cases ob with
  | spare => obtain ⟨cs, el, fr, h1, h2⟩ := h; exact ⟨cs, el, fr, hb.trans h1, h2⟩
  | row es =>
    obtain ⟨h1, h2, cs, el, fr, h3, h4, h5, h6⟩ := h
    refine ⟨h1, h2, cs, el, fr, hb.trans h3, h4, h5, fun i e he => ⟨(h6 i e he).1, fun j x hx => ?_⟩⟩
    obtain ⟨v, h7, h8⟩ := (h6 i e he).2 j x hx
    exact ⟨v, h7, h8.mono hG⟩
  | map es clock =>
    obtain ⟨en, h1, h2, h3⟩ := h
    exact ⟨en, hb.trans h1, h2.imp fun a b h => ⟨h.key.mono hG, h.kne, h.val.mono hG, h.vne, h.born⟩, h3⟩

theorem ObjOk.lt {G : Ghost} {w : World} {pl : Place} {ob : AObj} (h : ObjOk G w pl ob) : pl.blk < w.heap.size := by
  cases ob with
  | spare => obtain ⟨cs, el, fr, h1, h2⟩ := h; exact block_lt h1
  | row es => obtain ⟨h1, h2, cs, el, fr, h3, h4⟩ := h; exact block_lt h3
  | map es clock => obtain ⟨en, h1, h2⟩ := h; exact block_lt h1

theorem Inv.same {G : Ghost} {h : Heap} {w w' : World} (i : Inv G h w) (s : Same w w') : Inv G h w' :=
  ⟨fun b o x hx => by
      obtain ⟨v, h1, h2⟩ := i.fx b o x hx
      exact ⟨v, (cell_same (s.block b (cell_lt h1)) o).trans h1, h2⟩, i.cap,
    fun id ob e => by
      obtain ⟨pl, h1, h2⟩ := i.obj id ob e
      exact ⟨pl, h1, h2.of_block (.refl G) (s.block _ h2.lt)⟩, i.excl, i.exclS⟩

theorem live_lt {G : Ghost} {h : Heap} {w : World} (i : Inv G h w) {b : Nat} (l : Live G h b) : b < w.heap.size := by
  obtain ⟨id, pl, h1, h2, rfl⟩ := l
  cases e : h id with
  | none => exact absurd e h1
  | some ob =>
    obtain ⟨pl', h3, h4⟩ := i.obj id ob e
    rw [h2] at h3
    cases h3
    exact h4.lt

theorem Ext.of_same {G G' : Ghost} {h : Heap} {n : Nat} {w w' : World} (hG : G.Le G') (ho : G'.obj = G.obj) (s : Same w w') (hf : Fresh G h n) : Ext G h n w G' h n w' :=
  ⟨hG, s.os, s.tape, s.output, s.size, fun b hb _ => s.block b hb, fun b hb => .inr (by
      obtain ⟨id, pl, h1, h2, h3⟩ := hb
      exact ⟨id, pl, h1, by rw [← ho]; exact h2, h3⟩), Nat.le_refl _, fun id hid => ⟨(hf id hid).1, by rw [ho]; exact (hf id hid).2⟩⟩

/-! The pieces of single operations -/
section
variable {P : Program} {G : Ghost} {h : Heap} {w : World} {nt : Nat} {env : Env} {a : Act}

theorem opd_cell (he : EnvRep G nt env a) {o : Operand} {x : Opd} {c : AC} (h : opdOk o x = true) (e : x.ev env = .c c) : Rep G c (a.eval o) := by
  have := opd_rep he h; rw [e] at this; exact this
theorem opd_agg (he : EnvRep G nt env a) {o : Operand} {x : Opd} {cs : List AC} (h : opdOk o x = true) (e : x.ev env = .agg cs) : ∃ vs : Array Value, a.eval o = .agg vs ∧ F2 (Rep G) cs vs.toList := by
  have := opd_rep he h; rw [e] at this; exact this

theorem str_size (l : List UInt8) : (ByteArray.mk l.toArray).size = l.length := by simp [ByteArray.size]
theorem str_list (l : List UInt8) : (ByteArray.mk l.toArray).toList = l := by rw [ByteArray.toList_eq]

theorem run_equalIn_bool {t : TypeId} (hu : P.underlying t = some .bool) (d : Nat) (x y : Bool) : (Op.equalIn (d + 1) t (.bool x) (.bool y)).run P w = .ok (x == y) w := by
  simp [Op.equalIn, run_underlying hu]
theorem run_equal_bool {t : TypeId} (hu : P.underlying t = some .bool) (x y : Bool) : (Op.equal t (.bool x) (.bool y)).run P w = .ok (x == y) w :=
  run_equalIn_bool hu 9999 x y

/-- A value that is held against nil. -/
def held : Value → Bool
  | .pointer _ | .slice _ _ _ | .map _ | .func _ _ _ | .nilFunc => true
  | _ => false
theorem held_bin {t : TypeId} {x y : Operand} {vx vy : Value} {b : Bool} (h1 : held vx = true) (h2 : held vy = true) (hr : (Op.equal t vx vy).run P w = .ok b w) :
    (do eqGuard .eql t x y vx vy; binOp .eql t vx vy : Sem Value).run P w = .ok (.bool b) w ∧ (do eqGuard .neq t x y vx vy; binOp .neq t vx vy : Sem Value).run P w = .ok (.bool !b) w := by
  cases vx <;> simp [held] at h1 <;> cases vy <;> simp [held] at h2 <;> simp [eqGuard, binOp, hr]

theorem nil_runD (d : Nat) {t : TypeId} {y : AV} {vy : Value} (hy : RepV G y vy) (hb : nilTy P t y = true) {x : AC} {vx : Value} {b : Bool} (hx : Rep G x vx) (hn : isNil x y = some b) :
    (Op.equalIn (d + 1) t vx vy).run P w = .ok b w ∧ held vx = true ∧ held vy = true := by
  unfold isNil at hn
  split at hn <;> (try (cases hn; done)) <;> cases hn <;> simp only [nilTy] at hb <;> split at hb <;> (try (cases hb; done)) <;> clear hb <;> rename_i hu
  · cases hx; cases hy; exact ⟨by simp [Op.equalIn, run_underlying hu], rfl, rfl⟩
  · cases hx; cases hy; exact ⟨by simp [Op.equalIn, run_underlying hu], rfl, rfl⟩
  · cases hx; cases hy; exact ⟨by simp [Op.equalIn, run_underlying hu], rfl, rfl⟩
  · obtain ⟨_, rfl⟩ := hx; obtain ⟨_, rfl⟩ := hy; exact ⟨by simp [Op.equalIn, run_underlying hu], rfl, rfl⟩
  · obtain ⟨pl, _, rfl⟩ := hx; cases hy; exact ⟨by simp [Op.equalIn, run_underlying hu], rfl, rfl⟩
  · obtain ⟨b, o, rfl, _⟩ := hx; cases hy; exact ⟨by simp [Op.equalIn, run_underlying hu], rfl, rfl⟩
  · obtain ⟨pl, _, rfl⟩ := hx; cases hy; exact ⟨by simp [Op.equalIn, run_underlying hu], rfl, rfl⟩
  · obtain ⟨vs, rfl, _⟩ := hx; cases hy; exact ⟨by simp [Op.equalIn, run_underlying hu], rfl, rfl⟩
  · obtain ⟨vs, rfl, _⟩ := hx; cases hy; exact ⟨by simp [Op.equalIn, run_underlying hu], rfl, rfl⟩
  · obtain ⟨pl, _, rfl⟩ := hx; obtain ⟨_, rfl⟩ := hy; exact ⟨by simp [Op.equalIn, run_underlying hu], rfl, rfl⟩
  · obtain ⟨pl, _, _, _, _, rfl, _⟩ := hx; obtain ⟨_, rfl⟩ := hy; exact ⟨by simp [Op.equalIn, run_underlying hu], rfl, rfl⟩
  · rcases hx with ⟨b, o, cap, rfl, _⟩ | ⟨h, _⟩
    · obtain ⟨_, rfl⟩ := hy; exact ⟨by simp [Op.equalIn, run_underlying hu], rfl, rfl⟩
    · cases h
  · rcases hx with ⟨b, o, rfl, _⟩ | ⟨h, _⟩
    · obtain ⟨_, rfl⟩ := hy; exact ⟨by simp [Op.equalIn, run_underlying hu], rfl, rfl⟩
    · cases h

theorem nil_run {t : TypeId} {y : AV} {vy : Value} (hy : RepV G y vy) (hb : nilTy P t y = true) {x : AC} {vx : Value} {b : Bool} (hx : Rep G x vx) (hn : isNil x y = some b) :
    (Op.equal t vx vy).run P w = .ok b w ∧ held vx = true ∧ held vy = true := nil_runD 9999 hy hb hx hn

theorem bin_run (he : EnvRep G nt env a) {f : BOp} {op : BinOp} {t ty : TypeId} {x y : Opd} {x' y' : Operand} (hx : opdOk x' x = true) (hy : opdOk y' y = true) (hb : binOk P f op t y = true)
    {c : Prop} {v : AV} (hv : bn f (x.ev env) (y.ev env) = some (c, v)) (hc : c) :
    ∃ cv, (do eqGuard op t x' y' (a.eval x') (a.eval y'); binOp op t (a.eval x') (a.eval y') : Sem Value).run P w = .ok cv w ∧ RepV G v cv := by
  have ex := opd_rep he hx
  have ey := opd_rep he hy
  generalize a.eval x' = vx at *
  generalize a.eval y' = vy at *
  generalize hX : x.ev env = X at *
  generalize hY : y.ev env = Y at *
  unfold bn at hv
  split at hv
  -- whole numbers
  iterate 3
    · cases op <;> (try (simp [binOk] at hb; done))
      cases ex; cases ey; cases hv; subst hc
      exact ⟨_, by simp [eqGuard, binOp, Op.intArith], rfl⟩
  iterate 2
    · cases op <;> (try (simp [binOk] at hb; done))
      cases ex; cases ey; cases hv
      have h0 := hc.2; have h1 := hc.1; subst h1
      exact ⟨_, by simp [eqGuard, binOp, Op.intDiv, h0], rfl⟩
  iterate 4
    · cases op <;> (try (simp [binOk] at hb; done))
      cases ex; cases ey; cases hv; subst hc
      exact ⟨_, by simp [eqGuard, binOp]; unfold Op.intBits; exact rfl, rfl⟩
  iterate 2
    · cases op <;> (try (simp [binOk] at hb; done))
      cases ex; cases ey; cases hv
      have h0 := Int.not_lt.2 hc
      exact ⟨_, by simp [eqGuard, binOp, Op.shift, h0], rfl⟩
  iterate 6
    · cases op <;> (try (simp [binOk] at hb; done))
      cases ex; cases ey; cases hv; subst hc
      exact ⟨_, by simp [eqGuard, binOp, Op.intCmp], rfl⟩
  -- bools
  iterate 2
    · cases op <;> (try (simp [binOk] at hb; done))
      cases ex; cases ey; cases hv
      have hu : P.underlying t = some .bool := by
        simp only [binOk] at hb
        split at hb
        · assumption
        · cases hb
      exact ⟨_, by simp [eqGuard, binOp, run_equal_bool hu], rfl⟩
  -- strings
  · cases op <;> (try (simp [binOk] at hb; done))
    cases ex; cases ey; cases hv
    rename_i la lb
    have h0 : ¬ (9223372036854775807 : Int) < (la.length : Int) + (lb.length : Int) := by omega
    refine ⟨.string (⟨la.toArray⟩ ++ ⟨lb.toArray⟩), by simp [eqGuard, binOp, Op.stringOp, str_size, h0], ?_⟩
    show Value.string _ = Value.string _
    congr 1
  iterate 6
    · cases op <;> (try (simp [binOk] at hb; done))
      cases ex; cases ey; cases hv
      exact ⟨_, by simp only [eqGuard, binOp, Op.stringOp, str_list]; rfl, rfl⟩
  -- nil
  iterate 2
    · cases op <;> (try (simp [binOk] at hb; done))
      split at hv <;> cases hv
      rename_i hn
      simp only [binOk, nilOpd] at hb
      split at hb <;> (try (cases hb; done))
      simp only [Opd.ev] at hY
      subst hY
      obtain ⟨h1, h2, h3⟩ := nil_run (w := w) ey hb ex hn
      have h4 := held_bin (x := x') (y := y') h2 h3 h1
      first | exact ⟨_, h4.1, rfl⟩ | exact ⟨_, h4.2, rfl⟩
  · cases hv


/-- Part of an aggregate. -/
theorem part_run {ag : Bool} {sz off : Nat} {t : TypeId} (ht : tyOk P ag sz t = true) {cs : List AC} {vs : Array Value} (hr : F2 (Rep G) cs vs.toList) {c : Prop} {v : AV} (hv : part ag sz cs off = some (c, v)) (hc : c) :
    ∃ cv, (Go.part t vs off).run P w = .ok cv w ∧ RepE G v cv := by
  simp only [tyOk, Bool.and_eq_true] at ht
  obtain ⟨h1, h2⟩ := ht
  cases hi : P.info? t with
  | none => rw [hi] at h2; cases h2
  | some i =>
    rw [hi] at h2
    simp at h2
    unfold part at hv
    cases ag with
    | true =>
      simp only [if_true, Option.some.injEq, Prod.mk.injEq] at hv
      obtain ⟨rfl, rfl⟩ := hv
      have hg : (isAgg t).run P w = .ok true w := by
        unfold isAgg
        split at h1
        · rename_i hu; simp [run_underlying hu]
        · rename_i hu; simp [run_underlying hu]
        · simp at h1
        · cases h1
      refine ⟨.agg (vs.extract off (off + sz)), by simp [Go.part, hg, sizeOf, typeInfo, hi, h2], ⟨_, rfl, ?_⟩⟩
      rw [Array.toList_extract]
      have := F2.take (F2.drop hr off) sz
      simpa [List.extract_eq_take_drop, Nat.add_sub_cancel_left] using this
    | false =>
      simp only [Bool.false_eq_true, if_false] at hv
      split at hv
      · rename_i x hx
        cases hv
        obtain ⟨y, hy, hrep⟩ := F2.get hr _ _ hx
        have hg : (isAgg t).run P w = .ok false w := by
          unfold isAgg
          split at h1
          · simp at h1
          · simp at h1
          · rename_i d hn1 hn2 hu
            rw [Sem.run_bind, run_underlying hu]
            simp only [Result.andThen_ok]
            rfl
          · cases h1
        refine ⟨y, ?_, hrep⟩
        have hy' : vs[off]? = some y := by simpa using hy
        simp [Go.part, hg, hy']
      · cases hv

theorem fieldOf_some {t : TypeId} {f : Nat} {g : Field} (h : fieldOf P t f = some g) : ∃ fs, P.underlying t = some (.struct fs) ∧ fs[f]? = some g := by
  unfold fieldOf at h
  split at h
  · rename_i fs hu; exact ⟨fs, hu, h⟩
  · cases h
theorem sliceElem_some {t e : TypeId} (h : sliceElem P t = some e) : P.underlying t = some (.slice e) := by
  unfold sliceElem at h
  split at h
  · rename_i hu; cases h; exact hu
  · cases h
theorem arrElem_some {t e : TypeId} {n : Nat} (h : arrElem P t = some (n, e)) : P.underlying t = some (.array n e) := by
  unfold arrElem at h
  split at h
  · rename_i hu; cases h; exact hu
  · cases h
theorem isStr_some {t : TypeId} (h : isStr P t = true) : P.underlying t = some .string := by
  unfold isStr at h
  split at h
  · assumption
  · cases h
theorem isInt_some {k : IntKind} {t : TypeId} (h : isInt P k t = true) : P.underlying t = some (.int k) := by
  unfold isInt at h
  split at h
  · simp at h; subst h; assumption
  · cases h
theorem szOk_some {sz : Nat} {t : TypeId} (h : szOk P sz t = true) : ∃ i, P.info? t = some i ∧ i.size = sz := by
  unfold szOk at h
  split at h
  · rename_i i hi; exact ⟨i, hi, by simpa using h⟩
  · cases h
theorem sizeOf_run {sz : Nat} {t : TypeId} (h : szOk P sz t = true) : (sizeOf t).run P w = .ok sz w := by
  obtain ⟨i, h1, h2⟩ := szOk_some h
  simp [sizeOf, typeInfo, h1, h2]
theorem add_off (b o n : Nat) : (⟨b, o, none⟩ : Addr).add n = ⟨b, o + n, none⟩ := by
  unfold Addr.add; split
  · simp_all
  · rfl

end
end Go.Ab
