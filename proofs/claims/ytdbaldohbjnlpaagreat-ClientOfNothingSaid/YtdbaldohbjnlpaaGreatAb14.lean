/- Regions that draw their order: the walk is sound. -/
import Derived.Test.YtdbaldohbjnlpaaGreatAb13
set_option linter.unusedVariables false
set_option linter.unusedSimpArgs false
namespace Go.Ab
section
variable {P : Program} {nt : Nat} {xs : List AOper} {anc : List (List Nat)} {ops : Array Oper} {Q : Exit → Act → World → Prop}

theorem flG_sound {G : Ghost} {w : World} {a : Act} {env : Env} {h : Heap} {next : Act → World → Prop} {o : Oper} {x : AOper} (hk : operOk P nt ops o x = true) (he : EnvRep G nt env a) (hi : Inv G h w) {v : AV} (hv : flG x env h v)
    (hch : isChain x.op = false) (hnext : ∀ cv w' G', RepV G' v cv → Inv G' h w' → G.Le G' → G'.obj = G.obj → Same w w' → next (a.put o.dst cv) w') :
    if Region.wanted o (yielded ops a.tmps) then o.wp P a w next Q else next (a.put o.dst undef) w := by
  simp only [operOk, Bool.and_eq_true] at hk
  obtain ⟨⟨hd, hg⟩, hk⟩ := hk
  have hw := wanted_eq he hg
  have hun : ∀ G : Ghost, RepV G (.tup []) undef := fun G => ⟨#[], rfl, .nil⟩
  have run : (match fl x.op env h with | some (c, u) => c ∧ u = v | none => False) → o.wp P a w next Q := by
    intro hf
    split at hf
    · rename_i c u hfl
      obtain ⟨hc, rfl⟩ := hf
      cases hm : makes x.op with
      | false =>
        obtain ⟨cv, h1, h2⟩ := fl_run (P := P) (w := w) hm hi he hk hfl hc
        unfold Oper.wp
        rw [h1]
        exact hnext cv w G h2 hi (.refl G) rfl (Same.refl w)
      | true =>
        obtain ⟨cv, w', G', h1, h2, h3, h4, h5, h6⟩ := make_run (P := P) hm hi he hk hfl hc
        unfold Oper.wp
        rw [h1]
        exact hnext cv w' G' h2 h3 h4 h5 h6
    · exact hf.elim
  unfold flG at hv
  cases hgd : x.guard with
  | none =>
    rw [hgd] at hv hw
    simp only at hv hw
    rw [if_pos hw]
    exact run hv
  | some g =>
    obtain ⟨t, want⟩ := g
    rw [hgd] at hv hw
    simp only at hv hw
    split at hv
    · rename_i b hb
      rw [hb] at hw
      simp only at hw
      rw [hw.1]
      by_cases hbw : b = want
      · subst hbw
        simp only [beq_self_eq_true, if_true]
        exact run (hv.1 rfl)
      · have hb' : b = !want := by cases b <;> cases want <;> simp_all
        have h3 : (b == want) = false := by simpa using hbw
        rw [h3]
        simp only [Bool.false_eq_true, if_false]
        exact hnext undef w G (by rw [hv.2 hb']; exact hun G) hi (.refl G) rfl (Same.refl w)
    · rename_i hb
      rw [hb] at hw
      simp only at hw
      rw [hw]
      simp only [Bool.false_eq_true, if_false]
      exact hnext undef w G (by rw [hv]; exact hun G) hi (.refl G) rfl (Same.refl w)
    · exact hv.elim

/-- Listed. -/
def L (b : Array Bool) (k : Nat) : Prop := b.getD k false = true

/-- How far a walk has come, when what b lists has been carried out. -/
structure J (P : Program) (nt : Nat) (xs : List AOper) (anc : List (List Nat)) (K : St → Prop) (G0 : Ghost) (S0 : St) (w0 : World) (p : Plan) (E rem : List Nat) (b : Array Bool) (S : St) (G : Ghost) (a : Act) (w : World) : Prop where
  plan : planOk xs anc E rem p = true
  all : ∀ k, k < xs.length → k ∈ E ∨ k ∈ rem
  lt : ∀ k, k ∈ rem → k < xs.length
  apart : ∀ k, k ∈ E → k ∉ rem
  nodup : rem.Nodup
  come : ∀ k, L b k → k ∈ E
  float : ∀ k, k ∈ E → ¬ L b k → floats xs k = true
  closed : ∀ k, L b k → ∀ m ∈ aft xs k, L b m
  slots_ : ∀ i k, i ∈ E → k ∈ E → floats xs i = true → floats xs k = true → ∀ d, dstOf xs k = some d → (d ∈ slotsOf xs i → k ∈ ancOf anc i) ∧ (dstOf xs i = some d → i = k)
  run : regN P xs p S K
  inv : Inv G S.h w
  ext : Ext G0 S0.h S0.n w0 G S.h S.n w
  size : a.tmps.size = nt
  defers : a.defers = []
  env : ∀ t, (∀ k ∈ E, ¬ L b k → dstOf xs k ≠ some t) → RepV G (get S.env t) (a.tmps.getD t undef)
  late : ∀ k x d, k ∈ E → ¬ L b k → xs[k]? = some x → x.dst = some d → flG x S.env S.h (get S.env d)

theorem anc_listed (ha : ancOk xs anc = true) {b : Array Bool} (hcl : ∀ k, L b k → ∀ m ∈ aft xs k, L b m) : ∀ (n i : Nat), i < n → i < xs.length → (∀ m ∈ aft xs i, L b m) → ∀ k ∈ ancOf anc i, L b k := by
  intro n
  induction n with
  | zero => intro i hi; omega
  | succ n ih =>
    intro i hin hil hm k hk
    have h1 := List.all_eq_true.1 ha i (List.mem_range.2 hil)
    simp only [Bool.and_eq_true, List.all_eq_true, decide_eq_true_eq, Bool.or_eq_true, List.any_eq_true, List.contains_iff_mem] at h1
    obtain ⟨h2, h3⟩ := h1
    rcases h3 k hk with h4 | ⟨m, h4, h5⟩
    · exact hm k h4
    · have hmi := h2 m h4
      exact ih m (by omega) (by omega) (hcl m (hm m h4)) k h5

/-- The slots of what has come up late, masked. -/
def lateSlots (xs : List AOper) (E : List Nat) (b : Array Bool) : List Nat := (E.filter fun k => !b.getD k false).filterMap (dstOf xs)
theorem mem_late {E : List Nat} {b : Array Bool} {t : Nat} : t ∈ lateSlots xs E b ↔ ∃ k ∈ E, ¬ L b k ∧ dstOf xs k = some t := by
  unfold lateSlots L
  simp only [List.mem_filterMap, List.mem_filter, Bool.not_eq_true', Bool.not_eq_true]
  constructor
  · rintro ⟨k, ⟨h1, h2⟩, h3⟩; exact ⟨k, h1, h2, h3⟩
  · rintro ⟨k, h1, h2, h3⟩; exact ⟨k, ⟨h1, h2⟩, h3⟩

variable {K : St → Prop} {G0 : Ghost} {S0 : St} {w0 : World}

theorem J.envRep {p : Plan} {E rem : List Nat} {b : Array Bool} {S : St} {G : Ghost} {a : Act} {w : World} (j : J P nt xs anc K G0 S0 w0 p E rem b S G a w) : EnvRep G nt (Mask (lateSlots xs E b) S.env) a := by
  refine ⟨j.size, j.defers, fun t => ?_⟩
  by_cases ht : t ∈ lateSlots xs E b
  · rw [mask_in ht]; trivial
  · rw [mask_out ht]
    exact j.env t fun k h1 h2 h3 => ht (mem_late.2 ⟨k, h1, h2, h3⟩)

theorem xs_some {i : Nat} (h : floats xs i = true) : ∃ x d, xs[i]? = some x ∧ x.dst = some d ∧ isChain x.op = false ∧ dstOf xs i = some d ∧ slotsOf xs i = slots x := by
  unfold floats at h
  split at h
  · rename_i x hx
    simp only [Bool.and_eq_true, Bool.not_eq_true'] at h
    obtain ⟨d, hd⟩ := Option.isSome_iff_exists.1 h.2
    exact ⟨x, d, hx, hd, h.1, by simp [dstOf, hx, hd], by simp [slotsOf, hx]⟩
  · cases h

theorem L_set {b : Array Bool} {i k : Nat} (hi : i < b.size) : L (b.setIfInBounds i true) k ↔ k = i ∨ L b k := by
  unfold L
  by_cases hk : i = k
  · subst hk; simp [hi]
  · rw [getD_set_ne false hk]
    constructor
    · exact .inr
    · rintro (h | h)
      · exact absurd h.symm hk
      · exact h

/-- A floating operation that has come up in the walk is carried out. -/
theorem J.floatStep {p : Plan} {E rem : List Nat} {b : Array Bool} {S : St} {G : Ghost} {a : Act} {w : World} (j : J P nt xs anc K G0 S0 w0 p E rem b S G a w) (ha : ancOk xs anc = true) {i : Nat} {x : AOper} {o : Oper}
    (hx : xs[i]? = some x) (hk : operOk P nt ops o x = true) (hiE : i ∈ E) (hun : ¬ L b i) (hib : i < b.size) (hr : ∀ m ∈ aft xs i, L b m) {next : Act → World → Prop}
    (hnext : ∀ a' w' S' G', J P nt xs anc K G0 S0 w0 p E rem (b.setIfInBounds i true) S' G' a' w' → next a' w') :
    if Region.wanted o (yielded ops a.tmps) then o.wp P a w next Q else next (a.put o.dst undef) w := by
  have hfl := j.float i hiE hun
  obtain ⟨x', d, h1, h2, h3, h4, h5⟩ := xs_some hfl
  rw [hx] at h1; cases h1
  have hil : i < xs.length := (List.getElem?_eq_some_iff.1 hx).1
  have hanc := anc_listed ha j.closed (i + 1) i (by omega) hil hr
  have hslots : ∀ t ∈ slots x, t ∉ lateSlots xs E b := fun t ht hm => by
    obtain ⟨k, k1, k2, k3⟩ := mem_late.1 hm
    exact k2 (hanc k ((j.slots_ i k hiE k1 hfl (j.float k k1 k2) t k3).1 (by rw [h5]; exact ht)))
  have hv := j.late i x d hiE hun hx h2
  have hv' : flG x (Mask (lateSlots xs E b) S.env) S.h (get S.env d) := (flG_congr (fun t ht => mask_out (hslots t ht)) (.inl rfl)).2 hv
  have hd : dstOk nt o x = true := by simp only [operOk, Bool.and_eq_true] at hk; exact hk.1.1
  refine flG_sound hk j.envRep j.inv hv' h3 fun cv w' G' r1 r2 r3 r4 r5 => ?_
  have hf : Fresh G S.h S.n := j.ext.fresh
  have ext' := j.ext.trans (Ext.of_same r3 r4 r5 hf)
  simp only [dstOk, Bool.and_eq_true, beq_iff_eq] at hd
  obtain ⟨hd1, hd2⟩ := hd
  rw [h2] at hd1 hd2
  simp only [decide_eq_true_eq] at hd2
  have hput : ∀ t, (a.put o.dst cv).tmps.getD t undef = if t = d then cv else a.tmps.getD t undef := fun t => by
    rw [hd1]
    simp only [Act.put]
    by_cases htd : t = d
    · subst htd
      have : t < a.tmps.size := by rw [j.size]; exact hd2
      simp [this]
    · rw [if_neg htd]
      simp [Array.getElem?_setIfInBounds_ne (Ne.symm htd)]
  refine hnext _ _ S G' ⟨j.plan, j.all, j.lt, j.apart, j.nodup, fun k hk' => ?_, fun k k1 k2 => j.float k k1 (fun h => k2 ((L_set hib).2 (.inr h))), fun k hk' m hm => ?_, j.slots_, j.run, r2, ext', by rw [hd1]; simp [Act.put, j.size], by rw [hd1]; exact j.defers, fun t ht => ?_, fun k x' d' k1 k2 k3 k4 => j.late k x' d' k1 (fun h => k2 ((L_set hib).2 (.inr h))) k3 k4⟩
  · rcases (L_set hib).1 hk' with rfl | h
    · exact hiE
    · exact j.come k h
  · rcases (L_set hib).1 hk' with rfl | h
    · exact (L_set hib).2 (.inr (hr m hm))
    · exact (L_set hib).2 (.inr (j.closed k h m hm))
  · rw [hput]
    split
    · rename_i htd; subst htd; exact r1
    · rename_i htd
      refine (j.env t fun k k1 k2 k3 => ?_).mono r3
      by_cases hki : k = i
      · subst hki
        rw [h4] at k3
        exact htd (Option.some.inj k3).symm
      · exact ht k k1 (fun h => by
          rcases (L_set hib).1 h with h | h
          · exact hki h
          · exact k2 h) k3


/-- The walk goes on by a floating operation that is not carried out yet. -/
theorem J.advance {i : Nat} {r : Plan} {E rem : List Nat} {b : Array Bool} {S : St} {G : Ghost} {a : Act} {w : World} (j : J P nt xs anc K G0 S0 w0 (.fl i r) E rem b S G a w) :
    ∃ S', J P nt xs anc K G0 S0 w0 r (i :: E) (rem.erase i) b S' G a w := by
  have hp := j.plan
  simp only [planOk, nextOk, flOk, Bool.and_eq_true] at hp
  obtain ⟨⟨⟨hp1, hp2⟩, hp3, hp4⟩, hp5⟩ := hp
  have hirem : i ∈ rem := by simpa using hp1
  obtain ⟨x, d, h1, h2, h3, h4, h5⟩ := xs_some hp3
  rw [h4] at hp4
  simp only [Bool.and_eq_true, Bool.not_eq_true', List.all_eq_true, Bool.or_eq_true] at hp4
  obtain ⟨hp6, hp7⟩ := hp4
  have hself : d ∉ slots x := by rw [← h5]; simpa using hp6
  have hE : ∀ k ∈ E, floats xs k = true → ∃ d', dstOf xs k = some d' ∧ d' ≠ d ∧ d ∉ slotsOf xs k ∧ (d' ∈ slotsOf xs i → k ∈ ancOf anc i) := fun k hk hfl => by
    have := hp7 k hk
    rw [hfl] at this
    obtain ⟨_, d', _, _, _, h6, _⟩ := xs_some hfl
    rw [h6] at this
    simp only [Bool.not_eq_true, Bool.and_eq_true, bne_iff_ne, ne_eq, List.contains_iff_mem, Bool.or_eq_true] at this
    rcases this with h | ⟨⟨h7, h8⟩, h9⟩
    · cases h
    · refine ⟨d', h6, h7, by simpa using h8, fun h10 => ?_⟩
      rcases h9 with h | h
      · exact absurd h10 (by simpa using h)
      · exact h
  have hrun := j.run
  simp only [regN, h1] at hrun
  obtain ⟨v, e, r1, r2, r3⟩ := floatA_out hrun
  rw [h2] at r3
  have hge : ∀ t, t ≠ d → get e t = get S.env t := fun t ht => by
    rw [r3 t, putE_get, if_neg]
    intro h; exact ht (Option.some.inj h).symm
  have hgd : get e d = v := by rw [r3 d, putE_get, if_pos rfl]
  have hunl : ¬ L b i := fun hl => j.apart i (j.come i hl) hirem
  refine ⟨⟨e, S.h, S.n⟩, hp5, fun k hk => ?_, fun k hk => j.lt k (List.mem_of_mem_erase hk), fun k hk hk' => ?_, j.nodup.erase i, fun k hk => List.mem_cons_of_mem _ (j.come k hk), fun k hk hun => ?_, j.closed, fun p q hp hq hfp hfq dq hdq => ?_, r2, j.inv, j.ext, j.size, j.defers, fun t ht => ?_, fun k x' d' hk hun hx' hd' => ?_⟩
  · rcases j.all k hk with h | h
    · exact .inl (List.mem_cons_of_mem _ h)
    · by_cases hki : k = i
      · subst hki; exact .inl List.mem_cons_self
      · exact .inr ((List.mem_erase_of_ne hki).2 h)
  · rcases List.mem_cons.1 hk with rfl | hk
    · exact (j.nodup.not_mem_erase hk').elim
    · exact j.apart k hk (List.mem_of_mem_erase hk')
  · rcases List.mem_cons.1 hk with rfl | hk
    · exact hp3
    · exact j.float k hk hun
  · rcases List.mem_cons.1 hp with rfl | hpe <;> rcases List.mem_cons.1 hq with rfl | hqe
    · rw [h4] at hdq; cases hdq
      exact ⟨fun h => absurd h (by rw [h5]; exact hself), fun _ => rfl⟩
    · obtain ⟨d', k1, k2, k3, k4⟩ := hE q hqe hfq
      rw [k1] at hdq; cases hdq
      exact ⟨k4, fun h => absurd (Option.some.inj (h4.symm.trans h)).symm k2⟩
    · rw [h4] at hdq; cases hdq
      obtain ⟨d', k1, k2, k3, k4⟩ := hE p hpe hfp
      exact ⟨fun h => absurd h k3, fun h => absurd (Option.some.inj (k1.symm.trans h)) k2⟩
    · exact j.slots_ p q hpe hqe hfp hfq dq hdq
  · have htd : t ≠ d := fun h => ht i List.mem_cons_self hunl (h ▸ h4)
    show RepV G (get e t) _
    rw [hge t htd]
    exact j.env t fun k k1 k2 => ht k (List.mem_cons_of_mem _ k1) k2
  · rcases List.mem_cons.1 hk with rfl | hk
    · rw [h1] at hx'; cases hx'
      rw [h2] at hd'; cases hd'
      show flG x e S.h (get e d)
      rw [hgd]
      exact (flG_congr (fun t ht => hge t (fun h => hself (h ▸ ht))) (.inl rfl)).2 r1
    · have hfk := j.float k hk hun
      obtain ⟨d'', k1, k2, k3, k4⟩ := hE k hk hfk
      have hdd : d'' = d' := by
        have : dstOf xs k = some d' := by simp [dstOf, hx', hd']
        rw [this] at k1; exact (Option.some.inj k1).symm
      subst hdd
      have hsl : slotsOf xs k = slots x' := by simp [slotsOf, hx']
      show flG x' e S.h (get e d'')
      rw [hge d'' k2]
      refine (flG_congr (fun t ht => hge t (fun h => k3 ?_)) (.inl rfl)).2 (j.late k x' d'' hk hun hx' hd')
      rw [hsl, ← h]; exact ht

theorem stables_at {S : St} : ∀ {l : List Nat}, stables xs S l → ∀ {k : Nat} {x : AOper} {d : Nat}, k ∈ l → xs[k]? = some x → x.dst = some d → flG x S.env S.h (get S.env d)
  | [], _, _, _, _, hk, _, _ => by cases hk
  | m :: l, h, k, x, d, hk, hx, hd => by
    simp only [stables] at h
    rcases List.mem_cons.1 hk with rfl | hk
    · have := h.1
      rw [hx] at this
      simp only [hd] at this
      exact this
    · exact stables_at h.2 hk hx hd

/-- An operation that is not floating is carried out. -/
theorem J.chainStep {p r : Plan} {E rem chk : List Nat} {b : Array Bool} {S : St} {G : Ghost} {a : Act} {w : World} (j : J P nt xs anc K G0 S0 w0 p E rem b S G a w) (ha : ancOk xs anc = true) {i : Nat} {x : AOper} {o : Oper}
    (hx : xs[i]? = some x) (hk : operOk P nt ops o x = true) (hib : i < b.size) (hr : ∀ m ∈ aft xs i, L b m) (hrem : i ∈ rem) (hnf : floats xs i = false) (hch : chOk xs anc E chk i = true)
    (hplan : planOk xs anc (i :: E) (rem.erase i) r = true) (hrun : operA P x S (fun S' => stables xs S' chk ∧ regN P xs r S' K)) {next : Act → World → Prop}
    (hnext : ∀ a' w' S' G', J P nt xs anc K G0 S0 w0 r (i :: E) (rem.erase i) (b.setIfInBounds i true) S' G' a' w' → next a' w') :
    if Region.wanted o (yielded ops a.tmps) then o.wp P a w next Q else next (a.put o.dst undef) w := by
  have hil : i < xs.length := (List.getElem?_eq_some_iff.1 hx).1
  have hanc := anc_listed ha j.closed (i + 1) i (by omega) hil hr
  have hsl : slotsOf xs i = slots x := by simp [slotsOf, hx]
  have hdi : dstOf xs i = x.dst := by simp [dstOf, hx]
  -- what is late is apart from i
  have hlate : ∀ k ∈ E, ¬ L b k → ∃ d, dstOf xs k = some d ∧ d ∉ slots x ∧ x.dst ≠ some d ∧ (∀ di, x.dst = some di → di ∉ slotsOf xs k) ∧ (readsOf xs k = true → k ∈ chk) := fun k hkE hun => by
    have h1 := List.all_eq_true.1 hch k hkE
    rw [j.float k hkE hun, hsl, hdi] at h1
    simp only [Bool.not_true, Bool.false_or, Bool.or_eq_true, List.contains_iff_mem, Bool.and_eq_true, Bool.not_eq_true'] at h1
    rcases h1 with h1 | ⟨⟨h1, h2⟩, h3⟩
    · exact absurd (hanc k h1) hun
    · cases hdk : dstOf xs k with
      | none => rw [hdk] at h1; cases h1
      | some d =>
        rw [hdk] at h1
        simp only [Bool.and_eq_true, Bool.not_eq_true', bne_iff_ne, ne_eq] at h1
        refine ⟨d, rfl, by simpa using h1.1, h1.2, fun di hdi' => ?_, fun hrd => ?_⟩
        · rw [hdi'] at h2; simpa using h2
        · rcases h3 with h3 | h3
          · rw [hrd] at h3; cases h3
          · exact h3
  have hmask : Like (lateSlots xs E b) S.env (Mask (lateSlots xs E b) S.env) := fun t ht => (mask_out ht).symm
  have ho := operA_mask (e := S.env) (h := S.h) (n := S.n) hmask (fun t ht hm => by
      obtain ⟨k, k1, k2, k3⟩ := mem_late.1 hm
      obtain ⟨d, q1, q2, _⟩ := hlate k k1 k2
      rw [q1] at k3; cases k3
      exact q2 ht)
    (fun d hd hm => by
      obtain ⟨k, k1, k2, k3⟩ := mem_late.1 hm
      obtain ⟨d', q1, _, q3, _⟩ := hlate k k1 k2
      rw [q1] at k3; cases k3
      exact q3 hd) hrun
  refine operA_sound (S := ⟨Mask (lateSlots xs E b) S.env, S.h, S.n⟩) hk j.envRep j.inv j.ext.fresh ho fun a' w' hA => ?_
  obtain ⟨S'', G', ⟨f, ⟨hst, hrn⟩, hlike, hkeep⟩, he', hi', hext⟩ := hA
  have hunl' : ∀ k, k ∈ i :: E → ¬ L (b.setIfInBounds i true) k → k ∈ E ∧ ¬ L b k := fun k hk hun => by
    rcases List.mem_cons.1 hk with rfl | hk
    · exact absurd ((L_set hib).2 (.inl rfl)) hun
    · exact ⟨hk, fun h => hun ((L_set hib).2 (.inr h))⟩
  refine hnext _ _ ⟨f, S''.h, S''.n⟩ G' ⟨hplan, fun k hk => ?_, fun k hk => j.lt k (List.mem_of_mem_erase hk), fun k hk hk' => ?_, j.nodup.erase i, fun k hk => ?_, fun k hk hun => ?_, fun k hk m hm => ?_, fun p q hp hq hfp hfq => ?_, hrn, hi', j.ext.trans hext, he'.size, he'.defers, fun t ht => ?_, fun k x' d' hk hun hx' hd' => ?_⟩
  · rcases j.all k hk with h | h
    · exact .inl (List.mem_cons_of_mem _ h)
    · by_cases hki : k = i
      · subst hki; exact .inl List.mem_cons_self
      · exact .inr ((List.mem_erase_of_ne hki).2 h)
  · rcases List.mem_cons.1 hk with rfl | hk
    · exact (j.nodup.not_mem_erase hk').elim
    · exact j.apart k hk (List.mem_of_mem_erase hk')
  · rcases (L_set hib).1 hk with rfl | h
    · exact List.mem_cons_self
    · exact List.mem_cons_of_mem _ (j.come k h)
  · obtain ⟨h1, h2⟩ := hunl' k hk hun
    exact j.float k h1 h2
  · rcases (L_set hib).1 hk with rfl | h
    · exact (L_set hib).2 (.inr (hr m hm))
    · exact (L_set hib).2 (.inr (j.closed k h m hm))
  · rcases List.mem_cons.1 hp with rfl | hp
    · rw [hnf] at hfp; cases hfp
    · rcases List.mem_cons.1 hq with rfl | hq
      · rw [hnf] at hfq; cases hfq
      · exact j.slots_ p q hp hq hfp hfq
  · have ht' : t ∉ lateSlots xs E b := fun hm => by
      obtain ⟨k, k1, k2, k3⟩ := mem_late.1 hm
      refine ht k (List.mem_cons_of_mem _ k1) (fun h => ?_) k3
      rcases (L_set hib).1 h with rfl | h
      · exact j.apart k k1 hrem
      · exact k2 h
    show RepV G' (get f t) _
    rw [hlike t ht']
    exact he'.at_ t
  · obtain ⟨h1, h2⟩ := hunl' k hk hun
    obtain ⟨d, q1, q2, q3, q4, q5⟩ := hlate k h1 h2
    have hdd : d = d' := by
      have : dstOf xs k = some d' := by simp [dstOf, hx', hd']
      rw [this] at q1; exact (Option.some.inj q1).symm
    subst hdd
    show flG x' f S''.h (get f d)
    cases hrd : readsOf xs k with
    | true => exact stables_at (S := ⟨f, S''.h, S''.n⟩) hst (q5 hrd) hx' hd'
    | false =>
      rw [hkeep d q3]
      have hsl' : slotsOf xs k = slots x' := by simp [slotsOf, hx']
      refine (flG_congr (fun t ht => hkeep t (fun h => q4 t h (by rw [hsl']; exact ht))) (.inr ?_)).2 (j.late k x' d h1 h2 hx' hd')
      simpa [readsOf, hx'] using hrd


theorem countP_lt {p q : Nat → Bool} : ∀ {l : List Nat}, (∀ k ∈ l, q k = true → p k = true) → (∃ k ∈ l, p k = true ∧ q k = false) → l.countP q < l.countP p
  | [], _, ⟨k, hk, _⟩ => by cases hk
  | x :: l, h, ⟨k, hk, hp, hq⟩ => by
    have hle : l.countP q ≤ l.countP p := List.countP_mono_left (fun y hy => h y (List.mem_cons_of_mem _ hy))
    rw [List.countP_cons, List.countP_cons]
    rcases List.mem_cons.1 hk with rfl | hk
    · rw [hp, hq]; simp; omega
    · have := countP_lt (fun y hy => h y (List.mem_cons_of_mem _ hy)) ⟨k, hk, hp, hq⟩
      have hx := h x List.mem_cons_self
      cases h1 : q x
      · simp; split <;> omega
      · rw [hx h1]; simp; omega

def left_ (n : Nat) (b : Array Bool) : Nat := (List.range n).countP fun k => !b.getD k false
theorem left_set {n : Nat} {b : Array Bool} {i : Nat} (hi : i < n) (hb : b.size = n) (hun : ¬ L b i) : left_ n (b.setIfInBounds i true) < left_ n b := by
  refine countP_lt (fun k _ hk => ?_) ⟨i, List.mem_range.2 hi, by simpa [L] using hun, ?_⟩
  · simp only [Bool.not_eq_true'] at hk ⊢
    cases h : b.getD k false with
    | false => rfl
    | true =>
      have := (L_set (b := b) (i := i) (by omega)).2 (.inr h)
      unfold L at this
      rw [this] at hk; cases hk
  · have := (L_set (b := b) (i := i) (k := i) (by omega)).2 (.inl rfl)
    unfold L at this
    rw [this]; rfl

/-- The abstract operations are the region's. -/
structure Reg (P : Program) (nt : Nat) (ops : Array Oper) (xs : List AOper) : Prop where
  len : xs.length = ops.size
  ok : ∀ (i : Nat) (o : Oper) (x : AOper), ops[i]? = some o → xs[i]? = some x → operOk P nt ops o x = true
  aft1 : ∀ (i : Nat) (o : Oper) (x : AOper), ops[i]? = some o → xs[i]? = some x → ∀ e ∈ o.after, Region.binds .any e = true → e.on ∈ x.after
  aft2 : ∀ (i : Nat) (o : Oper) (x : AOper), ops[i]? = some o → xs[i]? = some x → ∀ k ∈ x.after, ∃ e ∈ o.after, Region.binds .any e = true ∧ e.on = k

theorem J.wp {fuel : Nat} {b : Array Bool} (hR : Reg P nt ops xs) (ha : ancOk xs anc = true) (hb : b.size = ops.size)
    (ih : ∀ i, i < ops.size → ¬ L b i → ∀ (p : Plan) (E rem : List Nat) (S : St) (G : Ghost) (a : Act) (w : World), J P nt xs anc K G0 S0 w0 p E rem (b.setIfInBounds i true) S G a w → wpAny P .any ops Q fuel (b.setIfInBounds i true) a w)
    {i : Nat} (hi : i < ops.size) (hun : ¬ L b i) (hr : ∀ m ∈ aft xs i, L b m) :
    ∀ (p : Plan) (E rem : List Nat) (S : St) (G : Ghost) (a : Act) (w : World), J P nt xs anc K G0 S0 w0 p E rem b S G a w → wpOp P ops Q i (wpAny P .any ops Q fuel (b.setIfInBounds i true)) a w := by
  have hil : i < xs.length := by rw [hR.len]; exact hi
  obtain ⟨x, hx⟩ : ∃ x, xs[i]? = some x := ⟨_, List.getElem?_eq_getElem hil⟩
  obtain ⟨o, ho⟩ : ∃ o, ops[i]? = some o := ⟨_, Array.getElem?_eq_getElem hi⟩
  have hk := hR.ok i o x ho hx
  have fin : ∀ {a : Act} {w : World}, (if Region.wanted o (yielded ops a.tmps) then o.wp P a w (wpAny P .any ops Q fuel (b.setIfInBounds i true)) Q else wpAny P .any ops Q fuel (b.setIfInBounds i true) (a.put o.dst undef) w) →
      wpOp P ops Q i (wpAny P .any ops Q fuel (b.setIfInBounds i true)) a w := fun h => by
    unfold wpOp
    simp only [ho]
    split
    · rename_i hw; rw [if_pos hw] at h; exact .inl h
    · rename_i hw; rw [if_neg hw] at h; exact h
  have inE : ∀ {p : Plan} {E rem : List Nat} {S : St} {G : Ghost} {a : Act} {w : World}, J P nt xs anc K G0 S0 w0 p E rem b S G a w → i ∈ E → wpOp P ops Q i (wpAny P .any ops Q fuel (b.setIfInBounds i true)) a w := fun {p E rem S G a w} j hE =>
    fin (j.floatStep ha hx hk hE hun (by omega) hr fun a' w' S' G' j' => ih i hi hun p E rem S' G' a' w' j')
  intro p
  induction p with
  | done =>
    intro E rem S G a w j
    have : rem = [] := by simpa [planOk] using j.plan
    rcases j.all i hil with h | h
    · exact inE j h
    · rw [this] at h; cases h
  | fl k r ihp =>
    intro E rem S G a w j
    by_cases hE : i ∈ E
    · exact inE j hE
    · obtain ⟨S', j'⟩ := j.advance
      exact ihp _ _ _ _ _ _ j'
  | ch k chk r ihp =>
    intro E rem S G a w j
    by_cases hE : i ∈ E
    · exact inE j hE
    · have hp := j.plan
      simp only [planOk, nextOk, Bool.and_eq_true, Bool.not_eq_true'] at hp
      obtain ⟨⟨⟨⟨⟨hp1, hp2⟩, hp3⟩, hp4⟩, hp5⟩, hp6⟩ := hp
      have hkrem : k ∈ rem := by simpa using hp1
      have hirem : i ∈ rem := (j.all i hil).resolve_left hE
      by_cases hik : i = k
      · subst hik
        have hrun := j.run
        simp only [regN, hx] at hrun
        exact fin (j.chainStep ha hx hk (by omega) hr hkrem hp3 hp4 hp6 hrun fun a' w' S' G' j' => ih i hi hun _ _ _ S' G' a' w' j')
      · have h1 := List.all_eq_true.1 hp5 i hirem
        simp only [Bool.or_eq_true, beq_iff_eq, List.contains_iff_mem] at h1
        have h2 := anc_listed ha j.closed (i + 1) i (by omega) hil hr k (h1.resolve_left hik)
        exact absurd hkrem (j.apart k (j.come k h2))
  | alt k c r m d s ih1 ih2 =>
    intro E rem S G a w j
    by_cases hE : i ∈ E
    · exact inE j hE
    · have hp := j.plan
      simp only [planOk, nextOk, Bool.and_eq_true, Bool.not_eq_true'] at hp
      obtain ⟨⟨⟨⟨⟨⟨⟨⟨⟨hp1, hp2⟩, hq1, hq2⟩, hp3⟩, hq3⟩, hp4⟩, hq4⟩, hp5⟩, hp6⟩, hq6⟩ := hp
      have hkrem : k ∈ rem := by simpa using hp1
      have hmrem : m ∈ rem := by simpa using hq1
      have hirem : i ∈ rem := (j.all i hil).resolve_left hE
      have hrun := j.run
      by_cases hik : i = k
      · subst hik
        simp only [regN, hx] at hrun
        exact fin (j.chainStep ha hx hk (by omega) hr hkrem hp3 hp4 hp6 hrun.1 fun a' w' S' G' j' => ih i hi hun _ _ _ S' G' a' w' j')
      · by_cases him : i = m
        · subst him
          simp only [regN, hx] at hrun
          exact fin (j.chainStep ha hx hk (by omega) hr hmrem hq3 hq4 hq6 hrun.2 fun a' w' S' G' j' => ih i hi hun _ _ _ S' G' a' w' j')
        · have h1 := List.all_eq_true.1 hp5 i hirem
          simp only [Bool.or_eq_true, beq_iff_eq, List.contains_iff_mem] at h1
          have hanc := anc_listed ha j.closed (i + 1) i (by omega) hil hr
          rcases h1 with ((h1 | h1) | h1) | h1
          · exact absurd h1 hik
          · exact absurd h1 him
          · exact absurd hkrem (j.apart k (j.come k (hanc k h1)))
          · exact absurd hmrem (j.apart m (j.come m (hanc m h1)))

theorem walk_sound (hR : Reg P nt ops xs) (ha : ancOk xs anc = true) (hQ : ∀ a' w', After P nt G0 S0 w0 K a' w' → Q .normal a' w') :
    ∀ (fuel : Nat) (b : Array Bool), b.size = ops.size → left_ ops.size b ≤ fuel → ∀ (p : Plan) (E rem : List Nat) (S : St) (G : Ghost) (a : Act) (w : World), J P nt xs anc K G0 S0 w0 p E rem b S G a w → wpAny P .any ops Q fuel b a w := by
  -- nothing is ready: all has come
  have hend : ∀ {b : Array Bool}, b.size = ops.size → (∀ i, i < ops.size → L b i) → ∀ {p : Plan} {E rem : List Nat} {S : St} {G : Ghost} {a : Act} {w : World}, J P nt xs anc K G0 S0 w0 p E rem b S G a w → Q .normal a w := by
    intro b hb hall p E rem S G a w j
    have hrem : rem = [] := by
      cases hrm : rem with
      | nil => rfl
      | cons k r =>
        have h1 : k ∈ rem := by rw [hrm]; exact List.mem_cons_self
        have h2 := j.lt k h1
        rw [hR.len] at h2
        exact absurd h1 (j.apart k (j.come k (hall k h2)))
    have hp := j.plan
    rw [hrem] at hp
    have hK : K S := by
      have hrun := j.run
      cases p <;> simp [planOk, nextOk] at hp
      exact hrun
    exact hQ _ _ ⟨S, G, hK, ⟨j.size, j.defers, fun t => j.env t fun k k1 k2 => by
      have : k < xs.length := by
        by_cases h : k < xs.length
        · exact h
        · have := j.float k k1 k2
          simp [floats, List.getElem?_eq_none (Nat.le_of_not_lt h)] at this
      rw [hR.len] at this
      exact absurd (hall k this) k2⟩, j.inv, j.ext⟩
  have hready : ∀ {b : Array Bool}, b.size = ops.size → ∀ i, i ∈ Region.ready .any ops b → i < ops.size ∧ ¬ L b i ∧ ∀ m ∈ aft xs i, L b m := by
    intro b hb i hi
    obtain ⟨h1, o, h2, h3⟩ := mem_ready.1 hi
    have hlt : i < ops.size := (Array.getElem?_eq_some_iff.1 h2).1
    obtain ⟨x, hx⟩ : ∃ x, xs[i]? = some x := ⟨_, List.getElem?_eq_getElem (by rw [hR.len]; exact hlt)⟩
    refine ⟨hlt, fun hl => ?_, fun m hm => ?_⟩
    · unfold L at hl
      have : i < b.size := by omega
      simp [this] at h1 hl
      rw [h1] at hl; cases hl
    · simp only [aft, hx] at hm
      obtain ⟨e, h4, h5, rfl⟩ := hR.aft2 i o x h2 hx m hm
      exact h3 e h4 h5
  intro fuel
  induction fuel with
  | zero =>
    intro b hb hl p E rem S G a w j
    have hall : ∀ i, i < ops.size → L b i := by
      intro i hi
      have h0 : left_ ops.size b = 0 := by omega
      unfold left_ at h0
      have := List.countP_eq_zero.1 h0 i (List.mem_range.2 hi)
      simpa [L] using this
    refine ⟨List.eq_nil_iff_forall_not_mem.2 fun i hi => ?_, hend hb hall j⟩
    obtain ⟨h1, h2, _⟩ := hready hb i hi
    exact h2 (hall i h1)
  | succ fuel ih =>
    intro b hb hl p E rem S G a w j
    refine ⟨fun hnil => hend hb (fun i => ?_) j, fun i hi => ?_⟩
    · induction i using Nat.strongRecOn with
      | _ i ihi =>
        intro hi
        obtain ⟨x, hx⟩ : ∃ x, xs[i]? = some x := ⟨_, List.getElem?_eq_getElem (by rw [hR.len]; exact hi)⟩
        obtain ⟨o, ho⟩ : ∃ o, ops[i]? = some o := ⟨_, Array.getElem?_eq_getElem hi⟩
        cases hun : b.getD i false with
        | true => exact hun
        | false =>
          exfalso
          have h1 := List.all_eq_true.1 ha i (List.mem_range.2 (by rw [hR.len]; exact hi))
          simp only [Bool.and_eq_true, List.all_eq_true, decide_eq_true_eq] at h1
          have hm : i ∈ Region.ready .any ops b := by
            refine mem_ready.2 ⟨?_, o, ho, fun e he hbd => ?_⟩
            · have : i < b.size := by omega
              simp [this] at hun ⊢
              exact hun
            · have h2 := hR.aft1 i o x ho hx e he hbd
              have h3 := h1.1 e.on (by simp only [aft, hx]; exact h2)
              exact ihi e.on h3 (by omega)
          rw [hnil] at hm; cases hm
    · obtain ⟨h1, h2, h3⟩ := hready hb i hi
      refine J.wp hR ha hb (fun i' hi' hun' p E rem S G a w j' => ?_) h1 h2 h3 p E rem S G a w j
      have := left_set hi' hb hun'
      exact ih (b.setIfInBounds i' true) (by simp [hb]) (by omega) p E rem S G a w j'

end
end Go.Ab
