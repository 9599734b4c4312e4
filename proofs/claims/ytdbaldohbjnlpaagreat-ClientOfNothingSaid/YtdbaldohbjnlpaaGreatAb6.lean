/- What floating operations do in a world: all. -/
import Derived.Test.YtdbaldohbjnlpaaGreatAb5k
set_option linter.unusedVariables false
set_option linter.unusedSimpArgs false
namespace Go.Ab
section
variable {P : Program} {G : Ghost} {h : Heap} {w : World} {nt : Nat} {env : Env} {a : Act}

def makes : AOp → Bool
  | .boxR _ | .slR .. | .slE _ | .sbytes _ | .mkfn .. | .mkbfn .. => true
  | _ => false

theorem bound_run (he : EnvRep G nt env a) {d : Nat} {l : Option Operand} {lo : Option Opd} (h : optOk l lo = true) {n : Int} (hb : bound env d lo = some n) :
    (l = none ∧ lo = none ∧ n = d) ∨ ∃ x k, l = some x ∧ lo.isSome = true ∧ a.eval x = .int k n := by
  unfold optOk at h
  split at h
  · simp only [bound, Option.some.injEq] at hb; exact .inl ⟨rfl, rfl, hb.symm⟩
  · rename_i x y
    simp only [bound] at hb
    split at hb
    · rename_i k m hy
      cases hb
      have := opd_cell he h hy
      exact .inr ⟨_, _, rfl, rfl, this⟩
    · cases hb
  · cases h

theorem callOk_some {c : Call} {b : Builtin} {xs : List Operand} {ts : List TypeId} (h : callOk c b = some (xs, ts)) : c.callee = .builtin b ∧ c.args = xs.toArray ∧ c.argTypes = ts.toArray := by
  unfold callOk at h
  split at h
  · rename_i b' hb
    split at h
    · rename_i hbb; subst hbb; cases h; exact ⟨hb, by simp, by simp⟩
    · cases h
  · cases h

theorem resolve_builtin {c : Call} {b : Builtin} {xs : List Operand} {ts : List TypeId} (h : callOk c b = some (xs, ts)) (ρ : Operand → Value) (ty : TypeId) :
    ∃ cs, resolve ρ c ty = pure { target := .builtin b ts.toArray ty cs, args := (xs.map ρ).toArray } := by
  obtain ⟨h1, h2, h3⟩ := callOk_some h
  unfold resolve
  rw [h1, h2, h3]
  exact ⟨_, by simp; rfl⟩

def intOfB : List AC → Int
  | [.int _ n] => n
  | _ => 0
theorem isByte_eq {e : List AC} (h : isByte e) : ∃ n, e = [.int .u8 n] := by
  unfold isByte at h
  split at h
  · exact ⟨_, rfl⟩
  · exact h.elim
theorem byteOf_intOfB (e : List AC) : byteOf e = UInt8.ofNat (intOfB e).toNat := by
  match e with
  | [] => rfl
  | [.int _ n] => rfl
  | [.bool _] | [.str _] | [.nilp] | [.ptr _ _ _] | [.rptr _] | [.sl _ _ _] | [.msl _] | [.rsl _ _ _ _] | [.psl _ _ _ _ _] | [.ifm _ _] | [.nilmap] | [.map _] | [.nilfn] | [.fn _ _] | [.bfn _ _] => rfl
  | _ :: _ :: _ => simp [byteOf, intOfB]
theorem push_all : ∀ (es : List (List AC)) (s : ByteArray), (es.map intOfB).foldl (fun r n => r.push (UInt8.ofNat n.toNat)) s = ⟨(s.data.toList ++ es.map byteOf).toArray⟩
  | [], s => by simp
  | e :: es, s => by
    simp only [List.map_cons, List.foldl_cons, push_all es]
    rw [byteOf_intOfB e]
    congr 1
    simp [ByteArray.push]

/-- A slice of any slice: what its bounds give. -/
theorem slice_any (he : EnvRep G nt env a) {t e : TypeId} {sz : Nat} (hu' : P.underlying t = some (.slice e)) (k6 : szOk P sz e = true) {l u m : Option Operand} {lo hi' mx : Option Opd} (k2 : optOk l lo = true) (k3 : optOk u hi' = true) (k4 : optOk m mx = true)
    (k5 : (m.isNone || u.isSome) = true) (hmn : m = none ↔ mx = none) {base : Option Addr} {len cap : Nat} (hcap : len ≤ cap) {nl nu nm : Int} (hl : bound env 0 lo = some nl) (hu : bound env len hi' = some nu) (hm : bound env len mx = some nm)
    (c1 : 0 ≤ nl) (c2 : nl ≤ nu) (c3 : nu ≤ len) (c4 : mx.isSome = true → nu = nm) :
    ∃ ad' cap', (Instr.slice t (.slice base len cap) (l.map a.eval) (u.map a.eval) (m.map a.eval)).run P w = .ok (.slice ad' (nu - nl).toNat cap') w ∧ (nu - nl).toNat ≤ cap' ∧ ((nu - nl).toNat ≠ 0 → ad' = base.map (·.add (nl.toNat * sz))) ∧
      (mx.isSome = true → cap' = (nu - nl).toNat) ∧ (mx = none → cap' = cap - nl.toNat) := by
  have e1 : ((nl.toNat : Nat) : Int) = nl := by omega
  have e2 : ((nu.toNat : Nat) : Int) = nu := by omega
  have hb : (Instr.sliceBounds true len cap (l.map a.eval) (u.map a.eval) (m.map a.eval)).run P w = .ok (nl.toNat, nu.toNat, if m.isNone then cap else nu.toNat) w := by
    refine sliceBounds_run (P := P) (w := w) true ?_ ?_ ?_
    · rcases bound_run he k4 hm with ⟨rfl, h2, h⟩ | ⟨x, k, rfl, h2, h⟩
      · exact .inl ⟨rfl, by simp⟩
      · have := c4 h2
        refine .inr ⟨k, by simp [h]; omega, by simp; omega, ?_⟩
        simp only [Option.isNone_some, Bool.false_or] at k5
        obtain ⟨q, rfl⟩ := Option.isSome_iff_exists.1 k5
        simp
    · rcases bound_run he k3 hu with ⟨rfl, _, h⟩ | ⟨x, k, rfl, _, h⟩
      · exact .inl ⟨rfl, by omega⟩
      · refine .inr ⟨k, by simp [h, e2], ?_⟩
        split
        · omega
        · exact Nat.le_refl _
    · rcases bound_run he k2 hl with ⟨rfl, _, h⟩ | ⟨x, k, rfl, _, h⟩
      · exact .inl ⟨rfl, by omega⟩
      · exact .inr ⟨k, by simp [h, e1], by omega⟩
  have hlen : nu.toNat - nl.toNat = (nu - nl).toNat := by omega
  refine ⟨if (if m.isNone then cap else nu.toNat) = nl.toNat then base else base.map (·.add (nl.toNat * sz)), (if m.isNone then cap else nu.toNat) - nl.toNat, ?_, ?_, fun hz => ?_, fun hs => ?_, fun hs => ?_⟩
  · simp only [Instr.slice, Sem.run_bind, run_underlying hu', Result.andThen_ok, hb, sizeOf_run k6]
    rw [← hlen]
    rfl
  · split <;> omega
  · rw [if_neg]
    split <;> omega
  · have : m.isNone = false := by
      cases m with
      | none => rw [hmn.1 rfl] at hs; cases hs
      | some _ => rfl
    rw [this]
    simp only [Bool.false_eq_true, if_false]
    omega
  · rw [hmn.2 hs]; rfl

theorem viewV_rep (hi : Inv G h w) {sz : Nat} {x : AC} {v : Value} (hx : Rep G x v) (hstr : ∀ s, x ≠ .str s) {p : Prop} {es : List (List AC)} (hv : viewV sz h x = some (p, es)) (hp : p) :
    ∃ ad cap, v = .slice ad es.length cap ∧ es.length ≤ cap ∧ (∀ e ∈ es, e.length = sz) ∧ (es = [] ∨ ∃ b o, ad = some ⟨b, o, none⟩ ∧ ∀ (i : Nat) (e : List AC) (j : Nat) (y : AC), es[i]? = some e → e[j]? = some y → ∃ u, w.cell? ⟨b, o + i * sz + j, none⟩ = some u ∧ Rep G y u) := by
  unfold viewV at hv
  split at hv
  · cases hv
    subst hp
    obtain ⟨ad, cap, h1, h2, h3⟩ := sl_cases hx
    refine ⟨ad, cap, h1, h2, fun e he => ?_, ?_⟩
    · rcases h3 with rfl | ⟨b, o, _, h4⟩
      · cases he
      · obtain ⟨i, hi'⟩ := List.mem_iff_getElem?.1 he
        exact (h4 i e hi').1
    · rcases h3 with rfl | ⟨b, o, rfl, h4⟩
      · exact .inl rfl
      · exact .inr ⟨b, o, rfl, fun i e j y he hy => hi.fx _ _ _ ((h4 i e he).2 j y hy)⟩
  · rename_i s; exact absurd rfl (hstr s)
  · rename_i id
    split at hv
    · cases hv
      rename_i hid
      obtain ⟨pl, p1, rfl⟩ := hx
      obtain ⟨pl', p3, p4, p5, cs, el, fr, p6, p7, p8, p9⟩ := hi.obj _ _ hid
      rw [p1] at p3; cases p3
      have hall : ∀ e ∈ es, e.length = sz := fun e he => by simpa using List.all_eq_true.1 hp e he
      refine ⟨_, _, by rw [p4], by omega, hall, ?_⟩
      by_cases hne : es = []
      · exact .inl hne
      · right
        have hsz : pl.sz = sz := by
          cases es with
          | nil => exact absurd rfl hne
          | cons e0 r => have h1 := (p9 0 e0 rfl).1; have h2 := hall e0 List.mem_cons_self; omega
        refine ⟨pl.blk, 0, rfl, fun i e j y he hy => ?_⟩
        obtain ⟨u, q1, q2⟩ := (p9 i e he).2 j y hy
        rw [hsz] at q1
        exact ⟨u, by simp only [World.cell?, p6, Nat.zero_add]; simpa using q1, q2⟩
    · cases hv
  · rename_i id lo n0 f
    split at hv
    · cases hv
      rename_i es0 hid
      obtain ⟨hlo, hall0⟩ := hp
      obtain ⟨pl, p1, p2⟩ := hx
      obtain ⟨pl', p3, p4, p5, cs, el, fr, p6, p7, p8, p9⟩ := hi.obj _ _ hid
      rw [p1] at p3; cases p3
      have hall : ∀ e ∈ es0, e.length = sz := fun e he => by simpa using List.all_eq_true.1 hall0 e he
      have hlen : ((es0.drop lo).take n0).length = n0 := by simp; omega
      have hall' : ∀ e ∈ (es0.drop lo).take n0, e.length = sz := fun e he => hall e (List.mem_of_mem_drop (List.mem_of_mem_take he))
      rcases p2 with ⟨cap, h1, h2, _⟩ | ⟨rfl, ad, cap, h1, _⟩
      · refine ⟨_, _, by rw [hlen]; exact h1, by rw [hlen]; exact h2, hall', ?_⟩
        by_cases hne : es0 = []
        · left; rw [hne]; simp
        · right
          have hsz : pl.sz = sz := by
            cases es0 with
            | nil => exact absurd rfl hne
            | cons e0 r => have h1 := (p9 0 e0 rfl).1; have h2 := hall e0 List.mem_cons_self; omega
          refine ⟨pl.blk, lo * pl.sz, rfl, fun i e j y he hy => ?_⟩
          rw [List.getElem?_take] at he
          split at he
          · rw [List.getElem?_drop] at he
            obtain ⟨u, q1, q2⟩ := (p9 _ e he).2 j y hy
            rw [hsz, Nat.add_mul] at q1
            exact ⟨u, by simp only [World.cell?, p6, hsz]; simpa using q1, q2⟩
          · cases he
      · exact ⟨_, _, by rw [hlen]; exact h1, by rw [hlen]; exact Nat.zero_le _, hall', .inl (by simp)⟩
    · cases hv
  · rename_i id i0 off sz' n0
    split at hv
    · rename_i es0 hid
      split at hv
      · cases hv
        rename_i e0 he0
        obtain ⟨rfl, hoff⟩ := hp
        obtain ⟨pl, p1, p2⟩ := hx
        obtain ⟨pl', p3, p4, p5, cs, el, fr, p6, p7, p8, p9⟩ := hi.obj _ _ hid
        rw [p1] at p3; cases p3
        have hall' : ∀ e ∈ groups sz' n0 (e0.drop off), e.length = sz' := fun e he => by
          obtain ⟨i, hi'⟩ := List.mem_iff_getElem?.1 he
          rw [groups_get] at hi'
          split at hi'
          · cases hi'
            rename_i hlt
            have h1 : i * sz' + sz' ≤ n0 * sz' := by rw [← Nat.succ_mul]; exact Nat.mul_le_mul_right _ hlt
            simp only [List.length_take, List.length_drop]; omega
          · cases hi'
        rcases p2 with ⟨cap, h1, h2⟩ | ⟨rfl, ad, cap, h1⟩
        · refine ⟨_, _, by rw [groups_length]; exact h1, by rw [groups_length]; exact h2, hall', .inr ⟨pl.blk, _, rfl, fun i e j y he hy => ?_⟩⟩
          rw [groups_get] at he
          split at he
          · cases he
            rename_i hlt
            have hj : j < sz' := by have := (List.getElem?_eq_some_iff.1 hy).1; simp only [List.length_take] at this; omega
            rw [List.getElem?_take_of_lt hj, List.getElem?_drop, List.getElem?_drop] at hy
            obtain ⟨u, q1, q2⟩ := (p9 i0 e0 he0).2 _ y hy
            refine ⟨u, ?_, q2⟩
            simp only [World.cell?, p6]
            rw [show i0 * pl.sz + off + i * sz' + j = i0 * pl.sz + (off + (i * sz' + j)) by omega]
            simpa using q1
          · cases he
        · exact ⟨_, _, by rw [groups_length]; exact h1, Nat.zero_le _, hall', .inl (List.eq_nil_of_length_eq_zero (groups_length _ _ _))⟩
      · cases hv
    · cases hv
  · cases hv

/-- The bytes of a slice, whatever it is. -/
theorem bytess_view (hi : Inv G h w) {x : AC} (hstr : ∀ s, x ≠ .str s) {y : Operand} {es : List (List AC)} {p : Prop} (hx : Rep G x (a.eval y)) (hvw : viewV 1 h x = some (p, es)) (hp : p) (hb : ∀ e ∈ es, isByte e) {src dst' e : TypeId} (hg : sliceElem P src = some e) (k2 : isStr P dst' = true) (k3 : isInt P .u8 e = true)
    {dst : Option Nat} (ty : TypeId) {pos : String} {af : Array Edge} {gd : Option (Nat × Bool)} :
    ∃ cv, (execOp a.eval ⟨dst, .convert src dst' y, ty, pos, af, gd⟩).run P w = .ok (.value cv) w ∧ RepV G (.c (.str (es.map byteOf))) cv := by
  obtain ⟨ad, cap, hve, hcap, hall, hrow⟩ := viewV_rep hi hx hstr hvw hp
  have hu1 := run_underlying (w := w) (sliceElem_some hg)
  have hu2 := run_underlying (w := w) (isStr_some k2)
  have hu3 := run_underlying (w := w) (isInt_some k3)
  have key : ∃ cv, (Conv.bytesToString (a.eval y)).run P w = .ok (.string cv) w ∧ cv = ⟨(es.map byteOf).toArray⟩ := by
    rw [hve]
    cases ad with
    | none =>
      rcases hrow with rfl | ⟨b, o, h, _⟩
      · exact ⟨ByteArray.empty, by simp [Conv.bytesToString], rfl⟩
      · cases h
    | some ad =>
      rcases hrow with rfl | ⟨b, o, h, hrow⟩
      · exact ⟨_, run_bytesToString w ad 0 cap [] (by simp [loadCells, loadCellsFrom]), rfl⟩
      · cases h
        refine ⟨_, run_bytesToString w ⟨b, o, none⟩ es.length cap (es.map intOfB) ?_, push_all es ByteArray.empty⟩
        have := loadCells_run (P := P) (w := w) (b := b) (o := o) (cs := (es.map intOfB).map (Value.int .u8)) (fun j v hj => by
          simp only [List.getElem?_map, Option.map_map] at hj
          cases he' : es[j]? with
          | none => rw [he'] at hj; cases hj
          | some e' =>
            rw [he'] at hj
            cases hj
            have hb := hb e' (List.mem_of_getElem? he')
            obtain ⟨n, rfl⟩ := isByte_eq hb
            obtain ⟨u, h5, h6⟩ := hrow j _ 0 (.int .u8 n) he' rfl
            cases h6
            simpa [intOfB] using h5)
        simpa using this
  obtain ⟨cv, h1, rfl⟩ := key
  refine ⟨.string ⟨(es.map byteOf).toArray⟩, ?_, rfl⟩
  simp only [execOp, convert, Sem.run_bind, hu1, hu2, hu3, Result.andThen_ok]
  rw [hve] at h1 ⊢
  simp [h1, hu3]

theorem fl_run {x : AOp} (ha : makes x = false) (hi : Inv G h w) (he : EnvRep G nt env a) {o : Oper} (hk : opOk P x o.op = true) {c : Prop} {v : AV} (hv : fl x env h = some (c, v)) (hc : c) :
    ∃ cv, (execOp a.eval o).run P w = .ok (.value cv) w ∧ RepV G v cv := by
  obtain ⟨dst, op, ty, pos, af, gd⟩ := o
  simp only at hk
  cases x with
  | mv x =>
    cases hv
    simp only [opOk] at hk
    split at hk
    · exact ⟨_, rfl, opd_rep he hk⟩
    · exact ⟨_, rfl, opd_rep he hk⟩
    · cases hk
  | sconv x =>
    simp only [fl] at hv
    split at hv <;> cases hv
    rename_i s hs
    simp only [opOk] at hk
    split at hk
    · simp only [Bool.and_eq_true] at hk
      have := opd_cell he hk.1.1 hs
      simp only [Rep] at this
      refine ⟨.string ⟨s.toArray⟩, ?_, rfl⟩
      simp [execOp, convert, this, run_underlying (isStr_some hk.1.2), run_underlying (isStr_some hk.2)]
    · cases hk
  | pick c a' b =>
    simp only [fl] at hv
    split at hv <;> cases hv
    rename_i t ht
    simp only [opOk] at hk
    split at hk
    · simp only [Bool.and_eq_true] at hk
      have h1 := opd_cell he hk.1.1 ht
      simp only [Rep] at h1
      cases t
      · exact ⟨_, by simp [execOp, h1, asBool], opd_rep he hk.2⟩
      · exact ⟨_, by simp [execOp, h1, asBool], opd_rep he hk.1.2⟩
    · cases hk
  | bin f x y =>
    simp only [opOk] at hk
    split at hk
    · simp only [Bool.and_eq_true] at hk
      obtain ⟨cv, h1, h2⟩ := bin_run (P := P) (w := w) (ty := ty) he hk.1.1 hk.1.2 hk.2 hv hc
      refine ⟨cv, ?_, h2⟩
      simp only [execOp]
      rw [Sem.run_bind, h1]
      rfl
    · cases hk
  | not x =>
    simp only [fl] at hv
    split at hv <;> cases hv
    rename_i b hb
    simp only [opOk] at hk
    split at hk
    · have h1 := opd_cell he hk hb
      simp only [Rep] at h1
      exact ⟨_, by simp [execOp, h1, Op.unary], rfl⟩
    · cases hk
  | neg x =>
    simp only [fl] at hv
    split at hv <;> cases hv
    rename_i b hb
    simp only [opOk] at hk
    split at hk
    · have h1 := opd_cell he hk hb
      simp only [Rep] at h1
      refine ⟨_, by simp [execOp, h1, Op.unary, Op.intArith]; rfl, ?_⟩
      show Value.int _ _ = Value.int _ _
      simp
    · cases hk
  | inv x =>
    simp only [fl] at hv
    split at hv <;> cases hv
    rename_i b hb
    simp only [opOk] at hk
    split at hk
    · have h1 := opd_cell he hk hb
      simp only [Rep] at h1
      refine ⟨_, by simp only [execOp, h1, Op.unary]; rfl, rfl⟩
    · cases hk
  | conv k x =>
    simp only [fl] at hv
    split at hv <;> cases hv
    rename_i k' b hb
    simp only [opOk] at hk
    split at hk
    · simp only [Bool.and_eq_true] at hk
      have h1 := opd_cell he hk.1.1 hb
      simp only [Rep] at h1
      obtain ⟨s, hs⟩ := Option.isSome_iff_exists.1 hk.1.2
      exact ⟨_, by simp [execOp, convert, h1, run_underlying hs, run_underlying (isInt_some hk.2), Conv.intToInt], rfl⟩
    · cases hk
  | nilck x =>
    simp only [opOk] at hk
    split at hk
    · simp only [fl] at hv
      split at hv <;> cases hv
      · rename_i hb
        have h1 := opd_cell he hk hb
        obtain ⟨pl, h2, h3⟩ := h1
        exact ⟨_, by simp [execOp, h3], pl, h2, rfl⟩
      · rename_i hb
        have h1 := opd_cell he hk hb
        obtain ⟨b, o, h2, h3⟩ := h1
        exact ⟨_, by simp [execOp, h2], b, o, rfl, h3⟩
    · cases hk
  | fadr off x =>
    simp only [opOk] at hk
    split at hk
    · simp only [Bool.and_eq_true] at hk
      obtain ⟨hk1, hk2⟩ := hk
      split at hk2
      · rename_i g hg
        obtain ⟨fs, hu, hf⟩ := fieldOf_some hg
        simp only [Bool.and_eq_true, beq_iff_eq] at hk2
        obtain ⟨⟨rfl, h4⟩, h5⟩ := hk2
        obtain ⟨i, h5⟩ := Option.isSome_iff_exists.1 h5
        have h6 : i.size ≠ 0 := by simpa [szOk, h5] using h4
        simp only [fl] at hv
        split at hv <;> cases hv
        · rename_i hb
          obtain ⟨pl, h2, h3⟩ := opd_cell he hk1 hb
          refine ⟨.pointer (some ⟨pl.blk, _, none⟩), by simp [execOp, h3, Instr.fieldAt, run_underlying hu, hf, Instr.sureAddr, fieldPlace, sizeOf, typeInfo, h5, h6, add_off]; rfl, pl, h2, ?_⟩
          rw [Nat.add_assoc]
        · rename_i hb
          obtain ⟨b, o, h2, h3⟩ := opd_cell he hk1 hb
          refine ⟨.pointer (some ⟨b, _, none⟩), by simp [execOp, h2, Instr.fieldAt, run_underlying hu, hf, Instr.sureAddr, fieldPlace, sizeOf, typeInfo, h5, h6, add_off]; rfl, b, _, rfl, fun j x hx => ?_⟩
          rw [List.getElem?_drop] at hx
          have := h3 _ _ hx
          rwa [← Nat.add_assoc] at this
      · cases hk2
    · cases hk
  | fld ag sz off x =>
    simp only [opOk] at hk
    split at hk
    · simp only [Bool.and_eq_true] at hk
      obtain ⟨hk1, hk2⟩ := hk
      split at hk2
      · rename_i g hg
        obtain ⟨fs, hu, hf⟩ := fieldOf_some hg
        simp only [Bool.and_eq_true, beq_iff_eq] at hk2
        obtain ⟨rfl, h4⟩ := hk2
        simp only [fl] at hv
        split at hv
        · rename_i cs hb
          obtain ⟨vs, h2, h3⟩ := opd_agg he hk1 hb
          obtain ⟨cv, h5, h6⟩ := part_run (P := P) (w := w) h4 h3 hv hc
          exact ⟨cv, by simp [execOp, h2, Instr.field, run_underlying hu, hf, asAgg, h5], h6.toV⟩
        · cases hv
      · cases hk2
    · cases hk
  | iadr sz x i =>
    simp only [opOk] at hk
    split at hk
    · simp only [Bool.and_eq_true] at hk
      obtain ⟨hk1, hk2⟩ := hk
      split at hk2
      · rename_i e hg
        obtain ⟨cv, h5, h6⟩ := iadr_ok hi (sliceElem_some hg) hk2 (opd_rep he hk1.1) (opd_rep he hk1.2) hv hc
        exact ⟨cv, by simp [execOp, h5], h6.toV⟩
      · cases hk2
    · cases hk
  | iarr sz len x i =>
    simp only [opOk] at hk
    split at hk
    · simp only [Bool.and_eq_true] at hk
      obtain ⟨hk1, hk2⟩ := hk
      split at hk2
      · rename_i n e hg
        have hu := arrElem_some hg
        simp only [Bool.and_eq_true, beq_iff_eq] at hk2
        obtain ⟨rfl, h4⟩ := hk2
        simp only [fl] at hv
        split at hv <;> cases hv
        · rename_i cs k m hb hj
          obtain ⟨b, o, h2, h3⟩ := opd_cell he hk1.1 hb
          have h7 := opd_cell he hk1.2 hj
          simp only [Rep] at h7
          refine ⟨.pointer (some ⟨b, o + m.toNat * sz, none⟩), by simp [execOp, h2, h7, Instr.indexAt, asIntOf, run_underlying hu, Instr.sureAddr, hc.1, hc.2, sizeOf_run h4, add_off], b, _, rfl, fun j x hx => ?_⟩
          rw [List.getElem?_drop] at hx
          have := h3 _ _ hx
          rwa [← Nat.add_assoc] at this
        · rename_i id j o k m hb hj
          obtain ⟨pl, h2, h3⟩ := opd_cell he hk1.1 hb
          have h7 := opd_cell he hk1.2 hj
          simp only [Rep] at h7
          refine ⟨.pointer (some ⟨pl.blk, (j * pl.sz + o) + m.toNat * sz, none⟩), by simp [execOp, h3, h7, Instr.indexAt, asIntOf, run_underlying hu, Instr.sureAddr, hc.1, hc.2, sizeOf_run h4, add_off], pl, h2, ?_⟩
          rw [Nat.add_assoc]
      · cases hk2
    · cases hk
  | idx ag len sz x i =>
    simp only [opOk] at hk
    split at hk
    · simp only [Bool.and_eq_true] at hk
      obtain ⟨hk1, hk2⟩ := hk
      split at hk2
      · rename_i n e hg
        have hu := arrElem_some hg
        simp only [Bool.and_eq_true, beq_iff_eq] at hk2
        obtain ⟨rfl, h4⟩ := hk2
        simp only [fl] at hv
        split at hv
        · rename_i cs k m hb hj
          split at hv
          · rename_i p v' hp
            cases hv
            obtain ⟨vs, h2, h3⟩ := opd_agg he hk1.1 hb
            have h7 := opd_cell he hk1.2 hj
            simp only [Rep] at h7
            have h8 : szOk P sz e = true := by
              simp only [tyOk, Bool.and_eq_true] at h4
              exact h4.2
            obtain ⟨cv, h5, h6⟩ := part_run (P := P) (w := w) h4 h3 hp hc.2
            exact ⟨cv, by simp [execOp, h2, h7, Instr.index, asIntOf, run_underlying hu, hc.1.1, hc.1.2, sizeOf_run h8, h5], h6.toV⟩
          · cases hv
        · cases hv
      · cases hk2
    · cases hk
  | sidx x i =>
    simp only [opOk] at hk
    split at hk
    · simp only [Bool.and_eq_true] at hk
      simp only [fl] at hv
      split at hv <;> cases hv
      rename_i s k n hs hn
      have h1 := opd_cell he hk.1.1 hs
      have h2 := opd_cell he hk.1.2 hn
      simp only [Rep] at h1 h2
      have hlt : n.toNat < s.length := by omega
      refine ⟨.int .u8 (s.getD n.toNat 0).toNat, ?_, rfl⟩
      have hb : (ByteArray.mk s.toArray)[n.toNat]? = some (s.getD n.toNat 0) := by
        have h3 : n.toNat < (ByteArray.mk s.toArray).size := by rw [str_size]; exact hlt
        rw [getElem?_pos (ByteArray.mk s.toArray) n.toNat h3]
        simp [ByteArray.getElem_eq_getElem_data, List.getD, List.getElem?_eq_getElem hlt]
      simp [execOp, h1, h2, Instr.index, asIntOf, run_underlying (isStr_some hk.2), hc.1, hb]
    · cases hk
  | alen n x =>
    simp only [opOk] at hk
    split at hk
    · split at hk
      · rename_i y t hcall
        simp only [Bool.and_eq_true] at hk
        obtain ⟨hk1, hk2⟩ := hk
        split at hk2
        · rename_i n' e hg
          simp at hk2; subst hk2
          cases hv
          obtain ⟨cs, hr⟩ := resolve_builtin hcall a.eval ty
          exact ⟨_, by simp [execOp, hr, invoke, builtin, Builtin.len_, run_underlying (arrElem_some hg), goInt], rfl⟩
        · cases hk2
      · cases hk
    · cases hk
  | len x =>
    simp only [opOk] at hk
    split at hk
    · split at hk
      · rename_i y t hcall
        simp only [Bool.and_eq_true] at hk
        obtain ⟨hk1, hk2⟩ := hk
        obtain ⟨e, hg⟩ := Option.isSome_iff_exists.1 hk2
        obtain ⟨cs, hr⟩ := resolve_builtin hcall a.eval ty
        obtain ⟨cv, h1, h2⟩ := len_ok (P := P) hi (sliceElem_some hg) (opd_rep he hk1) hv (ty := ty)
        exact ⟨cv, by simp [execOp, hr, invoke, builtin, h1], h2.toV⟩
      · cases hk
    · cases hk
  | mlen x =>
    simp only [opOk] at hk
    split at hk
    · split at hk
      · rename_i y t hcall
        simp only [Bool.and_eq_true] at hk
        obtain ⟨hk1, hk2⟩ := hk
        obtain ⟨cs, hr⟩ := resolve_builtin hcall a.eval ty
        obtain ⟨cv, h1, h2⟩ := mlen_ok (P := P) hi hk2 (opd_rep he hk1) hv (ty := ty)
        exact ⟨cv, by simp [execOp, hr, invoke, builtin, h1], h2.toV⟩
      · cases hk
    · cases hk
  | slen x =>
    simp only [opOk] at hk
    split at hk
    · split at hk
      · rename_i y t hcall
        simp only [Bool.and_eq_true] at hk
        obtain ⟨hk1, hk2⟩ := hk
        obtain ⟨cs, hr⟩ := resolve_builtin hcall a.eval ty
        simp only [fl] at hv
        split at hv <;> cases hv
        rename_i s hs
        have h1 := opd_cell he hk1 hs
        simp only [Rep] at h1
        exact ⟨_, by simp [execOp, hr, invoke, builtin, Builtin.len_, run_underlying (isStr_some hk2), h1, str_size, goInt], rfl⟩
      · cases hk
    · cases hk
  | extract i x =>
    simp only [opOk] at hk
    split at hk
    · simp only [Bool.and_eq_true, beq_iff_eq] at hk
      obtain ⟨hk1, rfl⟩ := hk
      simp only [fl] at hv
      split at hv
      · rename_i xs hx
        split at hv <;> cases hv
        rename_i hxi
        have h1 := opd_rep he hk1
        rw [hx] at h1
        obtain ⟨vs, h2, h3⟩ := h1
        obtain ⟨y, h4, h5⟩ := F2.getE h3 hxi
        exact ⟨y, by simp [execOp, h2, Instr.extract, h4], h5.toV⟩
      · cases hv
    · cases hk
  | load ag sz x =>
    simp only [opOk] at hk
    split at hk
    · simp only [Bool.and_eq_true] at hk
      obtain ⟨cv, h1, h2⟩ := load_ok hi hk.2 (opd_rep he hk.1) hv hc
      exact ⟨cv, by simp [execOp, h1], h2.toV⟩
    · cases hk
  | sslice x lo hi' =>
    simp only [opOk] at hk
    split at hk
    · rename_i t y lO uO m
      simp only [Bool.and_eq_true, Option.isNone_iff_eq_none] at hk
      obtain ⟨⟨⟨⟨k1, k2⟩, k3⟩, rfl⟩, k5⟩ := hk
      simp only [fl] at hv
      split at hv
      · rename_i s hs
        split at hv <;> cases hv
        rename_i l u hl hu
        have h1 := opd_cell he k1 hs
        simp only [Rep] at h1
        obtain ⟨c1, c2, c3⟩ := hc
        have e1 : ((l.toNat : Nat) : Int) = l := by omega
        have e2 : ((u.toNat : Nat) : Int) = u := by omega
        have hb : (Instr.sliceBounds false s.length s.length (Option.map a.eval lO) (Option.map a.eval uO) none).run P w = .ok (l.toNat, u.toNat, s.length) w := by
          refine sliceBounds_run (P := P) (w := w) false (.inl ⟨rfl, rfl⟩) ?_ ?_
          · rcases bound_run he k3 hu with ⟨rfl, _, h⟩ | ⟨x, k, rfl, _, h⟩
            · exact .inl ⟨rfl, by omega⟩
            · exact .inr ⟨k, by simp [h, e2], by omega⟩
          · rcases bound_run he k2 hl with ⟨rfl, _, h⟩ | ⟨x, k, rfl, _, h⟩
            · exact .inl ⟨rfl, by omega⟩
            · exact .inr ⟨k, by simp [h, e1], by omega⟩
        refine ⟨.string ((ByteArray.mk s.toArray).extract l.toNat u.toNat), ?_, ?_⟩
        · simp only [execOp, Instr.sliceAt, Instr.slice, h1, Sem.run_bind, run_underlying (isStr_some k5), Result.andThen_ok, str_size, Option.map_none, Option.isSome_none]
          simp [hb, run_underlying (isStr_some k5)]
        · show Value.string _ = Value.string _
          rw [ByteArray.extract_mk, List.drop_take]
      · cases hv
    · cases hk
  | slice sz x lo hi' mx =>
    simp only [opOk] at hk
    split at hk
    · rename_i t y l u m
      simp only [Bool.and_eq_true] at hk
      obtain ⟨⟨⟨⟨⟨k1, k2⟩, k3⟩, k4⟩, k5⟩, k6⟩ := hk
      split at k6
      · rename_i e hg
        have hu' := sliceElem_some hg
        have hmn : m = none ↔ mx = none := by
          unfold optOk at k4
          split at k4
          · simp
          · simp
          · cases k4
        simp only [fl] at hv
        split at hv
        · rename_i sz' es kk hs
          split at hv <;> cases hv
          rename_i nl nu nm hl hu hm
          obtain ⟨rfl, c1, c2, c3, c4⟩ := hc
          obtain ⟨ad, cap, hve, hcap, hrow⟩ := sl_cases (opd_cell he k1 hs)
          have e1 : ((nl.toNat : Nat) : Int) = nl := by omega
          have e2 : ((nu.toNat : Nat) : Int) = nu := by omega
          have hb : (Instr.sliceBounds true es.length cap (l.map a.eval) (u.map a.eval) (m.map a.eval)).run P w = .ok (nl.toNat, nu.toNat, if m.isNone then cap else nu.toNat) w := by
            refine sliceBounds_run (P := P) (w := w) true ?_ ?_ ?_
            · rcases bound_run he k4 hm with ⟨rfl, h2, h⟩ | ⟨x, k, rfl, h2, h⟩
              · exact .inl ⟨rfl, by simp⟩
              · have := c4 h2
                refine .inr ⟨k, by simp [h]; omega, by simp; omega, ?_⟩
                simp only [Option.isNone_some, Bool.false_or] at k5
                obtain ⟨q, rfl⟩ := Option.isSome_iff_exists.1 k5
                simp
            · rcases bound_run he k3 hu with ⟨rfl, _, h⟩ | ⟨x, k, rfl, _, h⟩
              · exact .inl ⟨rfl, by omega⟩
              · refine .inr ⟨k, by simp [h, e2], ?_⟩
                split
                · omega
                · exact Nat.le_refl _
            · rcases bound_run he k2 hl with ⟨rfl, _, h⟩ | ⟨x, k, rfl, _, h⟩
              · exact .inl ⟨rfl, by omega⟩
              · exact .inr ⟨k, by simp [h, e1], by omega⟩
          have hrun : (execOp a.eval ⟨dst, .slice t y l u m, ty, pos, af, gd⟩).run P w = .ok (.value (.slice (if (if m.isNone then cap else nu.toNat) = nl.toNat then ad else ad.map (·.add (nl.toNat * sz'))) (nu.toNat - nl.toNat) ((if m.isNone then cap else nu.toNat) - nl.toNat))) w := by
            simp only [execOp, Instr.sliceAt, Sem.run_bind, run_underlying hu', Result.andThen_ok, Instr.slice, hve, hb, sizeOf_run k6]
            rfl
          refine ⟨_, hrun, ?_⟩
          have hlen : ((es.take nu.toNat).drop nl.toNat).length = nu.toNat - nl.toNat := by simp; omega
          by_cases hz : nu.toNat - nl.toNat = 0
          · have hnil : (es.take nu.toNat).drop nl.toNat = [] := List.eq_nil_of_length_eq_zero (by omega)
            rw [hnil, hz]
            cases hmx : mx with
            | none => exact .inr ⟨rfl, _, _, rfl⟩
            | some q =>
              have : m.isNone = false := by
                cases m with
                | none => rw [hmn.1 rfl] at hmx; cases hmx
                | some _ => rfl
              rw [this]
              simp only [Bool.false_eq_true, if_false, hz]
              exact .inr ⟨rfl, _, rfl⟩
          · rcases hrow with rfl | ⟨b, o, rfl, hrow⟩
            · simp at c3; omega
            · have hr := (hrow.take nu.toNat).drop nl.toNat
              have hne : ¬ (if m.isNone then cap else nu.toNat) = nl.toNat := by split <;> omega
              rw [if_neg hne]
              simp only [Option.map_some, add_off]
              cases hmx : mx with
              | none =>
                have : m.isNone = true := by rw [hmn.2 hmx]; rfl
                rw [this]
                simp only [if_true]
                exact .inl ⟨b, _, _, by rw [hlen], by rw [hlen]; omega, hr⟩
              | some q =>
                have : m.isNone = false := by
                  cases m with
                  | none => rw [hmn.1 rfl] at hmx; cases hmx
                  | some _ => rfl
                rw [this]
                simp only [Bool.false_eq_true, if_false]
                exact .inl ⟨b, _, by rw [hlen], hr⟩
        · rename_i id hs
          split at hv
          · rename_i es hes
            split at hv <;> cases hv
            rename_i nl nu nm hl hu hm
            obtain ⟨c0, c1, c2, c3, c4⟩ := hc
            obtain ⟨pl, p1, p2⟩ := opd_cell he k1 hs
            obtain ⟨pl', p3, p4, p5, cs, el, fr, p6, p7, p8, p9⟩ := hi.obj _ _ hes
            rw [p1] at p3; cases p3
            have hsz : es ≠ [] → pl.sz = sz := fun hne => by
              cases es with
              | nil => exact absurd rfl hne
              | cons e0 r => have h1 := (p9 0 e0 rfl).1; have h2 := List.all_eq_true.1 c0 e0 List.mem_cons_self; simp at h2; omega
            rw [← p4] at p2
            have hcap : es.length ≤ pl.cap := by omega
            obtain ⟨ad', cap', r1, r2, r3, r4, r6⟩ := slice_any (P := P) (w := w) he hu' k6 k2 k3 k4 k5 hmn (base := some ⟨pl.blk, 0, none⟩) (len := es.length) (cap := pl.cap) (a := a) hcap hl hu hm c1 c2 c3 c4
            refine ⟨_, by simp only [execOp, Instr.sliceAt, Sem.run_bind, run_underlying hu', Result.andThen_ok, p2, r1]; rfl, pl, p1, ?_⟩
            by_cases hz : (nu - nl).toNat = 0
            · rw [hz] at r2 ⊢
              exact .inr ⟨rfl, _, _, rfl, fun hf => by have := r4 hf; omega⟩
            · have hne : es ≠ [] := by rintro rfl; simp at c3; omega
              rw [r3 hz, hsz hne]
              exact .inl ⟨_, by simp only [Option.map_some, add_off, Nat.zero_add], r2, fun hf => (r4 hf)⟩
          · cases hv
        · rename_i id lo0 n0 f hs
          split at hv
          · rename_i es hes
            split at hv <;> cases hv
            rename_i nl nu nm hl hu hm
            obtain ⟨c0, c00, c1, c2, c3, c4⟩ := hc
            obtain ⟨pl, p1, p2⟩ := opd_cell he k1 hs
            obtain ⟨pl', p3, p4, p5, cs, el, fr, p6, p7, p8, p9⟩ := hi.obj _ _ hes
            rw [p1] at p3; cases p3
            have hsz : es ≠ [] → pl.sz = sz := fun hne => by
              cases es with
              | nil => exact absurd rfl hne
              | cons e0 r => have h1 := (p9 0 e0 rfl).1; have h2 := List.all_eq_true.1 c0 e0 List.mem_cons_self; simp at h2; omega
            have hbase : ∃ ad cap, a.eval y = .slice ad n0 cap ∧ n0 ≤ cap ∧ (n0 ≠ 0 → ad = some ⟨pl.blk, lo0 * pl.sz, none⟩) ∧ (f = true → cap = n0) := by
              rcases p2 with ⟨cap, h1, h2, h3⟩ | ⟨rfl, ad, cap, h1, h2⟩
              · exact ⟨_, _, h1, h2, fun _ => rfl, h3⟩
              · exact ⟨_, _, h1, Nat.zero_le _, fun h => absurd rfl h, h2⟩
            obtain ⟨ad, cap, p2, hcap, had, hfull⟩ := hbase
            obtain ⟨ad', cap', r1, r2, r3, r4, r6⟩ := slice_any (P := P) (w := w) he hu' k6 k2 k3 k4 k5 hmn (base := ad) (len := n0) (cap := cap) (a := a) hcap hl hu hm c1 c2 c3 c4
            have r5 : (mx.isSome || (f && hi'.isNone)) = true → cap' = (nu - nl).toNat := fun hf => by
              cases hmx : mx.isSome with
              | true => exact r4 hmx
              | false =>
                rw [hmx] at hf
                simp only [Bool.false_or, Bool.and_eq_true] at hf
                have hf2 : hi' = none := by simpa using hf.2
                have hm0 : mx = none := by simpa using hmx
                have h1 := r6 hm0
                have h2 := hfull hf.1
                rw [hf2] at hu
                simp only [bound, Option.some.injEq] at hu
                omega
            refine ⟨_, by simp only [execOp, Instr.sliceAt, Sem.run_bind, run_underlying hu', Result.andThen_ok, p2, r1]; rfl, pl, p1, ?_⟩
            by_cases hz : (nu - nl).toNat = 0
            · rw [hz] at r2 ⊢
              exact .inr ⟨rfl, _, _, rfl, fun hf => by have := r5 hf; omega⟩
            · have hne : es ≠ [] := by rintro rfl; simp at c00; omega
              rw [r3 hz, had (by omega), hsz hne]
              exact .inl ⟨_, by simp only [Option.map_some, add_off, Nat.add_mul], r2, r5⟩
          · cases hv
        · rename_i id i off sz' n0 hs
          split at hv <;> cases hv
          rename_i nl nu hl hu
          obtain ⟨rfl, c0, c1, c2, c3⟩ := hc
          have hmx : mx = none := by simpa using c0
          obtain ⟨pl, p1, p2⟩ := opd_cell he k1 hs
          have hbase : ∃ ad cap, a.eval y = .slice ad n0 cap ∧ n0 ≤ cap ∧ (n0 ≠ 0 → ad = some ⟨pl.blk, i * pl.sz + off, none⟩) := by
            rcases p2 with ⟨cap, h1, h2⟩ | ⟨rfl, ad, cap, h1⟩
            · exact ⟨_, _, h1, h2, fun _ => rfl⟩
            · exact ⟨_, _, h1, Nat.zero_le _, fun h => absurd rfl h⟩
          obtain ⟨ad, cap, p2, hcap, had⟩ := hbase
          obtain ⟨ad', cap', r1, r2, r3, r4, r6⟩ := slice_any (P := P) (w := w) he hu' k6 k2 k3 k4 k5 hmn (base := ad) (len := n0) (cap := cap) (a := a) (nm := n0) hcap hl hu (by rw [hmx]; rfl) c1 c2 c3 (by rw [hmx]; simp)
          refine ⟨_, by simp only [execOp, Instr.sliceAt, Sem.run_bind, run_underlying hu', Result.andThen_ok, p2, r1]; rfl, pl, p1, ?_⟩
          by_cases hz : (nu - nl).toNat = 0
          · rw [hz] at r2 ⊢
            exact .inr ⟨rfl, _, _, rfl⟩
          · rw [r3 hz, had (by omega)]
            exact .inl ⟨_, by simp only [Option.map_some, add_off, Nat.add_assoc], r2⟩
        · cases hv
      · cases k6
    · cases hk
  | aeq neg ks x y =>
    cases hv
    simp only [opOk] at hk
    split at hk
    · rename_i op t x' y' _
      simp only [Bool.and_eq_true] at hk
      obtain ⟨⟨⟨k1, k2⟩, k3⟩, k4⟩ := hk
      have hh := eq_bin (P := P) (w := w) k3 (opd_rep he k1) (opd_rep he k2) hc.1 hc.2 x' y'
      cases op <;> simp at k4
      · subst k4
        refine ⟨_, by simp only [execOp]; rw [Sem.run_bind, hh.1]; rfl, ?_⟩
        show Value.bool _ = Value.bool _
        simp
      · subst k4
        refine ⟨_, by simp only [execOp]; rw [Sem.run_bind, hh.2]; rfl, ?_⟩
        show Value.bool _ = Value.bool _
        simp
    · cases hk
  | mm mx x y =>
    simp only [opOk] at hk
    split at hk
    · split at hk
      · rename_i x' y' _ hcall
        simp only [Bool.and_eq_true] at hk
        obtain ⟨hk1, hk2⟩ := hk
        simp only [fl] at hv
        split at hv <;> cases hv
        rename_i k u k' v hx hy
        subst hc
        have e1 := opd_cell he hk1 hx
        have e2 := opd_cell he hk2 hy
        simp only [Rep] at e1 e2
        obtain ⟨cs, hr⟩ := resolve_builtin hcall a.eval ty
        cases mx with
        | true =>
          refine ⟨.int k (if v > u then v else u), ?_, rfl⟩
          simp [execOp, hr, invoke, builtin, Builtin.max_, Builtin.max2, e1, e2]
        | false =>
          refine ⟨.int k (if v < u then v else u), ?_, rfl⟩
          simp [execOp, hr, invoke, builtin, Builtin.min_, Builtin.min2, e1, e2]
      · cases hk
    · cases hk
  | lookup ok ks zero x k =>
    simp only [opOk] at hk
    split at hk
    · rename_i t x' k' ok'
      simp only [Bool.and_eq_true, beq_iff_eq] at hk
      obtain ⟨⟨⟨k1, k2⟩, rfl⟩, k4⟩ := hk
      split at k4
      · rename_i kt et hm
        simp only [Bool.and_eq_true] at k4
        obtain ⟨cv, h1, h2⟩ := lookup_ok hi hm k4.1 k4.2 (opd_rep he k1) (opd_rep he k2) hv hc
        exact ⟨cv, by simp only [execOp, Sem.run_bind, h1]; rfl, h2⟩
      · cases k4
    · cases hk
  | mkif t x =>
    simp only [opOk] at hk
    split at hk
    · rename_i t' y
      simp only [Bool.and_eq_true, beq_iff_eq] at hk
      obtain ⟨⟨k1, rfl⟩, k3⟩ := hk
      simp only [fl] at hv
      split at hv <;> cases hv
      rename_i id hx
      obtain ⟨pl, h1, h2⟩ := opd_cell he k1 hx
      unfold isMap at k3
      split at k3
      · rename_i hu
        exact ⟨_, by simp [execOp, Instr.makeInterface, run_underlying hu, h2], pl, h1, rfl⟩
      · cases k3
    · cases hk
  | tas t x =>
    simp only [opOk] at hk
    split at hk
    · rename_i y _ t' ok
      simp only [Bool.and_eq_true, beq_iff_eq, Bool.not_eq_true'] at hk
      obtain ⟨⟨⟨k1, rfl⟩, rfl⟩, k3⟩ := hk
      simp only [fl] at hv
      split at hv <;> cases hv
      rename_i t' id hx
      subst hc
      obtain ⟨pl, h1, h2⟩ := opd_cell he k1 hx
      unfold isMap at k3
      split at k3
      · rename_i hu
        exact ⟨_, by simp [execOp, Instr.typeAssert, run_underlying hu, h2], pl, h1, rfl⟩
      · cases k3
    · cases hk
  | aslice sz n x =>
    simp only [opOk] at hk
    split at hk
    · rename_i t y l u m
      simp only [Bool.and_eq_true, Option.isNone_iff_eq_none] at hk
      obtain ⟨⟨⟨⟨k1, rfl⟩, rfl⟩, rfl⟩, k5⟩ := hk
      split at k5
      · rename_i n' e hg
        simp only [Bool.and_eq_true, beq_iff_eq] at k5
        obtain ⟨rfl, k6⟩ := k5
        have hb := sliceBounds_run (P := P) (w := w) false (len := n') (cap := n') (lo := none) (hi := none) (mx := none) (.inl ⟨rfl, rfl⟩) (.inl ⟨rfl, rfl⟩) (.inl ⟨rfl, rfl⟩)
        simp only [fl] at hv
        split at hv <;> cases hv
        · rename_i cs hs
          obtain ⟨b, o, h1, h2⟩ := opd_cell he k1 hs
          refine ⟨.slice (some ⟨b, o, none⟩) n' n', ?_, ?_⟩
          · simp only [execOp, Instr.sliceAt, Sem.run_bind, run_underlying (arrElem_some hg), Result.andThen_ok, h1, Instr.sureAddr, Option.map_none]
            simp only [Sem.run_pure, Result.andThen_ok, Sem.run_bind, hb, sizeOf_run k6, Nat.zero_mul, Nat.sub_zero, add_off, Nat.add_zero, ite_self]
          · exact .inl ⟨b, o, by rw [groups_length], row_groups hc h2⟩
        · rename_i id i off hs
          obtain ⟨pl, h1, h2⟩ := opd_cell he k1 hs
          refine ⟨.slice (some ⟨pl.blk, i * pl.sz + off, none⟩) n' n', ?_, pl, h1, .inl ⟨n', rfl, Nat.le_refl _⟩⟩
          simp only [execOp, Instr.sliceAt, Sem.run_bind, run_underlying (arrElem_some hg), Result.andThen_ok, h2, Instr.sureAddr, Option.map_none]
          simp only [Sem.run_pure, Result.andThen_ok, Sem.run_bind, hb, sizeOf_run k6, Nat.zero_mul, Nat.sub_zero, add_off, Nat.add_zero, ite_self]
      · cases k5
    · cases hk
  | aslc sz n x lo hi' =>
    simp only [opOk] at hk
    split at hk
    · rename_i t y lO uO m
      simp only [Bool.and_eq_true, Option.isNone_iff_eq_none] at hk
      obtain ⟨⟨⟨⟨k1, k2⟩, k3⟩, rfl⟩, k5⟩ := hk
      split at k5
      · rename_i n' e hg
        simp only [Bool.and_eq_true, beq_iff_eq] at k5
        obtain ⟨rfl, k6⟩ := k5
        simp only [fl] at hv
        split at hv
        · rename_i l u hl hu
          have hb : 0 ≤ l → l ≤ u → u ≤ (n' : Int) → (Instr.sliceBounds false n' n' (Option.map a.eval lO) (Option.map a.eval uO) none).run P w = .ok (l.toNat, u.toNat, n') w := by
            intro c1 c2 c3
            have e1 : ((l.toNat : Nat) : Int) = l := by omega
            have e2 : ((u.toNat : Nat) : Int) = u := by omega
            refine sliceBounds_run (P := P) (w := w) false (.inl ⟨rfl, rfl⟩) ?_ ?_
            · rcases bound_run he k3 hu with ⟨rfl, _, h⟩ | ⟨x, k, rfl, _, h⟩
              · exact .inl ⟨rfl, by omega⟩
              · exact .inr ⟨k, by simp [h, e2], by omega⟩
            · rcases bound_run he k2 hl with ⟨rfl, _, h⟩ | ⟨x, k, rfl, _, h⟩
              · exact .inl ⟨rfl, by omega⟩
              · exact .inr ⟨k, by simp [h, e1], by omega⟩
          split at hv <;> cases hv
          · rename_i cs hs
            obtain ⟨c0, c1, c2, c3⟩ := hc
            obtain ⟨b, o, h1, h2⟩ := opd_cell he k1 hs
            have hlen : ((((groups sz n' cs).take u.toNat).drop l.toNat)).length = u.toNat - l.toNat := by
              rw [List.length_drop, List.length_take, groups_length]; omega
            refine ⟨.slice (some (if n' = l.toNat then ⟨b, o, none⟩ else ⟨b, o + l.toNat * sz, none⟩)) (u.toNat - l.toNat) (n' - l.toNat), ?_, ?_⟩
            · simp only [execOp, Instr.sliceAt, Sem.run_bind, run_underlying (arrElem_some hg), Result.andThen_ok, h1, Instr.sureAddr, Option.map_none]
              simp only [Sem.run_pure, Result.andThen_ok, Sem.run_bind, hb c1 c2 c3, sizeOf_run k6, add_off]
            · by_cases hz : u.toNat - l.toNat = 0
              · have hnil := List.eq_nil_of_length_eq_zero (hlen.trans hz)
                rw [hnil, hz]
                exact .inr ⟨rfl, _, _, rfl⟩
              · rw [if_neg (by omega)]
                have hr := ((row_groups c0 h2).take u.toNat).drop l.toNat
                exact .inl ⟨b, _, n' - l.toNat, by rw [hlen], by rw [hlen]; omega, hr⟩
          · rename_i id i off hs
            obtain ⟨c1, c2, c3⟩ := hc
            obtain ⟨pl, h1, h2⟩ := opd_cell he k1 hs
            have hlen : (u - l).toNat = u.toNat - l.toNat := by omega
            refine ⟨.slice (some (if n' = l.toNat then ⟨pl.blk, i * pl.sz + off, none⟩ else ⟨pl.blk, i * pl.sz + off + l.toNat * sz, none⟩)) (u.toNat - l.toNat) (n' - l.toNat), ?_, pl, h1, ?_⟩
            · simp only [execOp, Instr.sliceAt, Sem.run_bind, run_underlying (arrElem_some hg), Result.andThen_ok, h2, Instr.sureAddr, Option.map_none]
              simp only [Sem.run_pure, Result.andThen_ok, Sem.run_bind, hb c1 c2 c3, sizeOf_run k6, add_off]
            · rw [hlen]
              by_cases hz : u.toNat - l.toNat = 0
              · rw [hz]; exact .inr ⟨rfl, _, _, rfl⟩
              · rw [if_neg (by omega)]
                exact .inl ⟨n' - l.toNat, by rw [Nat.add_assoc], by omega⟩
        · cases hv
      · cases k5
    · cases hk
  | build zero ps =>
    cases hv
    cases op with
    | build t parts =>
      obtain ⟨cv, h1, h2⟩ := build_ok (P := P) (w := w) (G := G) he hk hc
      exact ⟨cv, by simp only [execOp, Sem.run_bind, h1]; rfl, h2⟩
    | _ => simp [opOk] at hk
  | bytess x =>
    simp only [opOk] at hk
    split at hk
    · rename_i src dst' y
      simp only [Bool.and_eq_true] at hk
      obtain ⟨⟨k1, k2⟩, k3⟩ := hk
      split at k3
      · rename_i e hg
        simp only [fl] at hv
        split at hv
        rotate_left
        · rename_i id hs
          split at hv
          · rename_i es hid
            cases hv
            have hvw : viewV 1 h (.msl id) = some (es.all (fun e => e.length == 1) = true, es) := by simp only [viewV, hid]
            have h1 : es.all (fun e => e.length == 1) = true := List.all_eq_true.2 fun e he => by
              obtain ⟨n, rfl⟩ := isByte_eq (hc e he); rfl
            exact bytess_view hi (by simp) (opd_cell he k1 hs) hvw h1 hc hg k2 k3 ty
          · cases hv
        · rename_i id i off sz n hs
          split at hv
          · rename_i p es hvw
            cases hv
            obtain ⟨hc1, hc2⟩ := hc
            exact bytess_view hi (by simp) (opd_cell he k1 hs) hvw hc1 hc2 hg k2 k3 ty
          · cases hv
        · cases hv
        cases hv
        rename_i sz es kk hs
        obtain ⟨ad, cap, hve, hcap, hrow⟩ := sl_cases (opd_cell he k1 hs)
        have hu1 := run_underlying (w := w) (sliceElem_some hg)
        have hu2 := run_underlying (w := w) (isStr_some k2)
        have hu3 := run_underlying (w := w) (isInt_some k3)
        have key : ∃ cv, (Conv.bytesToString (a.eval y)).run P w = .ok (.string cv) w ∧ cv = ⟨(es.map byteOf).toArray⟩ := by
          rw [hve]
          cases ad with
          | none =>
            rcases hrow with rfl | ⟨b, o, h, _⟩
            · exact ⟨ByteArray.empty, by simp [Conv.bytesToString], rfl⟩
            · cases h
          | some ad =>
            rcases hrow with rfl | ⟨b, o, h, hrow⟩
            · exact ⟨_, run_bytesToString w ad 0 cap [] (by simp [loadCells, loadCellsFrom]), rfl⟩
            · cases h
              refine ⟨_, run_bytesToString w ⟨b, o, none⟩ es.length cap (es.map intOfB) ?_, push_all es ByteArray.empty⟩
              have := loadCells_run (P := P) (w := w) (b := b) (o := o) (cs := (es.map intOfB).map (Value.int .u8)) (fun j v hj => by
                simp only [List.getElem?_map, Option.map_map] at hj
                cases he' : es[j]? with
                | none => rw [he'] at hj; cases hj
                | some e' =>
                  rw [he'] at hj
                  cases hj
                  have hb := hc e' (List.mem_of_getElem? he')
                  obtain ⟨h3, h4⟩ := hrow _ _ he'
                  obtain ⟨n, rfl⟩ := isByte_eq hb
                  simp at h3
                  subst h3
                  obtain ⟨v, h5, h6⟩ := hi.fx _ _ _ (h4 0 _ rfl)
                  cases h6
                  simpa [intOfB] using h5)
              simpa using this
        obtain ⟨cv, h1, rfl⟩ := key
        refine ⟨.string ⟨(es.map byteOf).toArray⟩, ?_, rfl⟩
        simp only [execOp, convert, Sem.run_bind, hu1, hu2, hu3, Result.andThen_ok]
        rw [hve] at h1 ⊢
        simp [h1, hu3]
      · cases k3
    · cases hk
  | boxR x => cases ha
  | slR _ _ _ _ => cases ha
  | sbytes x => cases ha
  | slE _ => cases ha
  | bad => cases hv
  | slM _ _ _ _ => cases hv
  | frz _ _ => cases hv
  | asg x => cases hv
  | box x => cases hv
  | alloc z => cases hv
  | app _ _ _ _ => cases hv
  | store _ _ _ => cases hv
  | call _ _ => cases hv
  | mkfn _ _ => cases ha
  | mkbfn _ _ => cases ha
  | mkmap => cases hv
  | mupd _ _ _ _ => cases hv
  | mdel _ _ _ => cases hv
  | mentry _ _ _ _ => cases hv
  | estore _ _ _ => cases hv
  | mclone _ => cases hv
  | appM _ _ _ _ => cases hv
  | mksl _ _ _ _ _ _ => cases hv
  | cpy _ _ _ => cases hv
  | callv _ _ => cases hv

end
end Go.Ab
