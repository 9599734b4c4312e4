/- A law's arguments, read off the row's own reading: each reading tells an abstract value of its type. -/
import Derived.Test.YtdbaldohbjnlpaaGreatAb17
set_option linter.unusedVariables false
set_option linter.unusedSimpArgs false
namespace Go.Ab
open Go.RowKit Go.Proofs.YtdbaldohbjnlpaaGreat

theorem bulkAll_sum {H : Type} : ∀ (l : List (DataW H)), Rows.uptoBulkAll l = (l.map Rows.uptoBulk).sum
  | [] => by simp [Rows.uptoBulkAll]
  | d :: r => by simp [Rows.uptoBulkAll, bulkAll_sum r]

theorem sum_range {α : Type} (f : α → Nat) : ∀ (l : List α) (n : Nat), l.length = n → ∃ W : Nat → Nat, (∀ j x, l[j]? = some x → W j = f x) ∧ ((List.range n).map W).sum = (l.map f).sum
  | l, n, h => by
    subst h
    refine ⟨fun j => (l[j]?.map f).getD 0, fun j x hj => by simp [hj], ?_⟩
    congr 1
    apply List.ext_getElem?
    intro i
    simp only [List.getElem?_map]
    by_cases hi : i < l.length
    · rw [List.getElem?_range hi]; simp [hi]
    · have : (List.range l.length)[i]? = none := by rw [List.getElem?_eq_none]; simp; omega
      rw [this, List.getElem?_eq_none (by omega)]; rfl

theorem acWE_append : ∀ (a b : List (List AC)), acWE (a ++ b) = acWE a + acWE b
  | [], b => by simp [acWE]
  | x :: r, b => by simp [acWE, acWE_append r b]; omega

theorem choose_list {α β : Type} {Q : α → β → Prop} : ∀ (l : List α), (∀ x ∈ l, ∃ y, Q x y) → ∃ m : List β, F2 Q l m
  | [], _ => ⟨[], .nil⟩
  | x :: r, h => by
    obtain ⟨y, hy⟩ := h x (by simp)
    obtain ⟨m, hm⟩ := choose_list r fun z hz => h z (by simp [hz])
    exact ⟨y :: m, .cons hy hm⟩

theorem sumE : ∀ {es : List (List AC)} {ns : List Nat}, F2 (fun e n => acWL e ≤ n) es ns → acWE es ≤ ns.sum
  | _, _, .nil => by simp [acWE]
  | _, _, .cons h1 h2 => by have := sumE h2; simp only [acWE, List.sum_cons]; omega

theorem F2.map_right {α β γ : Type} {R : α → γ → Prop} {f : β → γ} : ∀ {l : List α} {m : List β}, F2 (fun a b => R a (f b)) l m → F2 R l (m.map f)
  | _, _, .nil => .nil
  | _, _, .cons h1 h2 => .cons h1 (F2.map_right h2)

theorem F2.mem_left {α β : Type} {R : α → β → Prop} : ∀ {l : List α} {m : List β}, F2 R l m → ∀ x ∈ l, ∃ y ∈ m, R x y
  | _, _, .nil, x, hx => by simp at hx
  | _, _, .cons h1 h2, x, hx => by
    rcases List.mem_cons.1 hx with rfl | hx
    · exact ⟨_, by simp, h1⟩
    · obtain ⟨y, hy, h⟩ := F2.mem_left h2 x hx
      exact ⟨y, by simp [hy], h⟩

theorem F2.flip {α β : Type} {R : α → β → Prop} : ∀ {l : List α} {m : List β}, F2 R l m → F2 (fun b a => R a b) m l
  | _, _, .nil => .nil
  | _, _, .cons h1 h2 => .cons h1 (F2.flip h2)

theorem addPlain (b o n : Nat) : (⟨b, o, none⟩ : Addr).add n = ⟨b, o + n, none⟩ := by
  unfold Addr.add; split
  · simp_all
  · rfl

section
variable {P : Program} {w : World} {H : Type} {enc : TypeId × Value → H} {T : TypeId → Prop}

theorem readAs (K : Kids P T) (hT : ∀ t, T t → okShape P t = true) : ∀ (fuel : Nat) (t : TypeId) (cs : List Value) (d : DataW H) (ps : List MemPlace), T t →
    DataW.trod enc P w 0 (fun _ => true) true fuel t cs = some (d, ps) → ∃ ac, F2 (Mem w) ac cs ∧ Ty P fuel t ac ∧ acWL ac ≤ Rows.uptoBulk d := by
  intro fuel
  induction fuel with
  | zero => intro t cs d ps _ h; simp [DataW.trod] at h
  | succ fuel ih =>
    intro t cs d ps ht h
    have hs := hT t ht
    unfold okShape at hs
    unfold DataW.trod at h
    split at h
    · rename_i hu
      cases h
      exact ⟨[.bool _], .cons (by rw [Mem]) .nil, by simp [Ty, hu], by simp [acWL, acW, Rows.uptoBulk]⟩
    · rename_i hu
      split at h
      · rename_i hc
        cases h
        obtain ⟨rfl, hw⟩ := hc
        exact ⟨[.int _ _], .cons (by rw [Mem]) .nil, by simp [Ty, hu, hw], by simp [acWL, acW, Rows.uptoBulk]⟩
      · cases h
    · rename_i hu; rw [hu] at hs; cases hs
    · rename_i s hu
      split at h
      · rename_i hm
        cases h
        exact ⟨[.str s.data.toList], .cons (by rw [Mem]) .nil, by rw [Ty, hu]; exact ⟨_, rfl, by rw [Array.length_toList]; exact hm⟩, by simp [acWL, acW, Rows.uptoBulk]⟩
      · cases h
    · rename_i e hu
      cases h
      exact ⟨[.nilp], .cons (by rw [Mem]) .nil, by simp [Ty, hu], by simp [acWL, acW, Rows.uptoBulk]⟩
    · rename_i e a hu
      rw [hu] at hs
      simp only [decide_eq_true_eq] at hs
      simp only [Option.map_eq_some_iff, Option.bind_eq_some_iff] at h
      obtain ⟨y, ⟨cs', h1, h2⟩, h3⟩ := h
      cases h3
      obtain ⟨_, h4, h5⟩ := World.cells?_some h1
      obtain ⟨ac, k1, k2, k3⟩ := ih e cs' y.1 y.2 (K.pointer ht hu) h2
      have hsp : a.spot = none := by
        have := h5 0 hs
        rw [List.getElem?_eq_getElem (by omega)] at this
        have := World.cell?_spot this
        simpa [Addr.add] using this
      obtain ⟨b, o, sp⟩ := a
      subst hsp
      refine ⟨[.rptr ac], .cons ?_ .nil, ?_, ?_⟩
      · rw [Mem]
        refine ⟨b, o, rfl, memL_of k1 fun j v hv => ?_⟩
        have hj : j < cs'.length := (List.getElem?_eq_some_iff.1 hv).1
        have := h5 j (by omega)
        rw [hv, addPlain] at this
        exact this
      · simp [Ty, hu, k2]
      · simp only [acWL, acW, Rows.uptoBulk]; omega
    · rename_i e hu
      cases h
      exact ⟨[.sl (P.cellsOf e) [] .nil], .cons (by rw [Mem]; exact ⟨rfl, rfl⟩) .nil, by rw [Ty, hu]; exact ⟨[], .nil, rfl, Nat.zero_le _, .inl ⟨rfl, rfl⟩, fun x hx => by simp at hx⟩, by simp [acWL, acW, acWE, Rows.uptoBulk]⟩
    · rename_i e a len cap hu
      rw [hu] at hs
      simp only [decide_eq_true_eq] at hs
      simp only at h
      split at h
      · rename_i hc
        simp only [Option.map_eq_some_iff, Option.bind_eq_some_iff] at h
        obtain ⟨elems, h1, rest, _, h3⟩ := h
        cases h3
        have hF := mapM_F2 h1
        have hl : elems.length = len := by have := F2.length hF; simpa using this.symm
        obtain ⟨b, o, sp⟩ := a
        have hsp0 : 0 < len → sp = none := by
          intro h0
          obtain ⟨x, hx, h5⟩ := F2.get hF 0 0 (by simp [h0])
          simp only [Option.bind_eq_some_iff] at h5
          obtain ⟨cs', h6, h7⟩ := h5
          have := (World.cells?_some h6).2.2 0 hs
          rw [List.getElem?_eq_getElem (by rw [(World.cells?_some h6).2.1]; exact hs)] at this
          have := World.cell?_spot this
          simpa [Addr.add] using this
        obtain ⟨m, hm⟩ := choose_list (Q := fun (i : Nat) (ac : List AC) => ∃ x, elems[i]? = some x ∧ Ty P fuel e ac ∧ acWL ac ≤ Rows.uptoBulk x.1 ∧ ac.length = P.cellsOf e ∧ sp = none ∧ MemL w ac b (o + i * P.cellsOf e)) (List.range len) (fun i hi => by
          have hi' : i < len := List.mem_range.1 hi
          obtain ⟨x, hx, h5⟩ := F2.get hF i i (by simp [hi'])
          simp only [Option.bind_eq_some_iff] at h5
          obtain ⟨cs', h6, h7⟩ := h5
          obtain ⟨ac, k1, k2, k3⟩ := ih e cs' x.1 x.2 (K.slice ht hu) h7
          obtain ⟨_, h8, h9⟩ := World.cells?_some h6
          have hsp : sp = none := hsp0 (by omega)
          refine ⟨ac, x, hx, k2, k3, by rw [F2.length k1]; exact h8, hsp, memL_of k1 fun j v hv => ?_⟩
          have hj : j < cs'.length := (List.getElem?_eq_some_iff.1 hv).1
          have := h9 j (by omega)
          subst hsp
          rw [hv, addPlain, addPlain] at this
          exact this)
        have hml : m.length = len := by have := F2.length hm; simpa using this.symm
        have hget : ∀ (i : Nat) (ac : List AC), m[i]? = some ac → ∃ x, elems[i]? = some x ∧ Ty P fuel e ac ∧ acWL ac ≤ Rows.uptoBulk x.1 ∧ ac.length = P.cellsOf e ∧ sp = none ∧ MemL w ac b (o + i * P.cellsOf e) := by
          intro i ac hi
          obtain ⟨i', h4, h5⟩ := F2.rget hm hi
          have hi' : i < len := by rw [← hml]; exact (List.getElem?_eq_some_iff.1 hi).1
          rw [List.getElem?_range hi'] at h4
          cases h4
          exact h5
        refine ⟨[.sl (P.cellsOf e) m .none], .cons ?_ .nil, ?_, ?_⟩
        · rw [Mem]
          by_cases h0 : len = 0
          · subst h0
            have : m = [] := by simpa using hml
            exact .inr ⟨this, _, _, rfl⟩
          · obtain ⟨ac, hac⟩ : ∃ ac, m[0]? = some ac := ⟨m[0], by rw [List.getElem?_eq_getElem (by omega)]⟩
            obtain ⟨_, _, _, _, _, hsp, _⟩ := hget 0 ac hac
            subst hsp
            refine .inl ⟨b, o, cap, by rw [hml], by omega, memE_of fun i ac hi => ?_⟩
            obtain ⟨_, _, _, _, h4, _, h5⟩ := hget i ac hi
            exact ⟨h4, h5⟩
        · rw [Ty, hu]
          refine ⟨m, .none, rfl, by omega, .inr rfl, fun ac hac => ?_⟩
          obtain ⟨i, hi⟩ := List.mem_iff_getElem?.1 hac
          obtain ⟨_, _, h4, _⟩ := hget i ac hi
          exact h4
        · have hW : acWE m ≤ (elems.map fun x => Rows.uptoBulk x.1).sum := by
            refine sumE (F2.map_right (F2.of_get (by omega) fun i ac hi => ?_))
            obtain ⟨x, h4, _, h5, _⟩ := hget i ac hi
            exact ⟨x, h4, h5⟩
          simp only [acWL, acW, Rows.uptoBulk, bulkAll_sum, List.map_map]
          have : (elems.map fun x => Rows.uptoBulk x.1) = elems.map (Rows.uptoBulk ∘ Prod.fst) := rfl
          rw [← this]
          omega
      · cases h
    · rename_i cs _ _ fs hu
      split at h
      · rename_i hc
        simp only [Option.map_eq_some_iff] at h
        obtain ⟨xs, h1, h3⟩ := h
        cases h3
        obtain ⟨k1, k2, k3⟩ := K.struct ht hu
        have hF := mapM_F2 h1
        obtain ⟨W, hW1, hW2⟩ := sum_range (fun x : DataW H × List MemPlace => Rows.uptoBulk x.1) xs fs.toList.length (F2.length hF).symm
        obtain ⟨ac, g1, g2, g3⟩ := parts (R := Mem w) (fs.toList.map fun f => P.cellsOf f.type) cs (fun j ac => ∀ f, fs.toList[j]? = some f → Ty P fuel f.type ac) W (by rw [hc, k2]) (fun j n hj => by
          simp only [List.getElem?_map, Option.map_eq_some_iff] at hj
          obtain ⟨f, hf, rfl⟩ := hj
          obtain ⟨x, hx, h5⟩ := F2.get hF j f hf
          obtain ⟨ac, q1, q2, q3⟩ := ih _ _ x.1 x.2 (k1 f (List.mem_of_getElem? hf)) h5
          refine ⟨ac, ?_, fun f' hf' => by rw [hf] at hf'; cases hf'; exact q2, by rw [hW1 j x hx]; exact q3⟩
          rw [k3 j f hf, List.map_take] at q1
          exact q1)
        refine ⟨ac, g1, ?_, ?_⟩
        · rw [Ty, hu]
          refine ⟨by rw [F2.length g1, hc], fun f hf => ?_⟩
          obtain ⟨j, hj⟩ := List.mem_iff_getElem?.1 hf
          have := g2 j (P.cellsOf f.type) (by simp [hj]) f hj
          rwa [k3 j f hj, List.map_take]
        · simp only [Rows.uptoBulk, bulkAll_sum, List.map_map]
          rw [List.length_map, hW2] at g3
          have : (xs.map fun x => Rows.uptoBulk x.1) = xs.map (Rows.uptoBulk ∘ Prod.fst) := rfl
          rw [← this]
          omega
      · cases h
    · rename_i cs _ _ n e hu
      split at h
      · rename_i hc
        simp only [Option.map_eq_some_iff] at h
        obtain ⟨xs, h1, h3⟩ := h
        cases h3
        obtain ⟨k1, k2⟩ := K.array ht hu
        have hF := mapM_F2 h1
        obtain ⟨W, hW1, hW2⟩ := sum_range (fun x : DataW H × List MemPlace => Rows.uptoBulk x.1) xs n (by have := F2.length hF; simpa using this.symm)
        have hrep : ∀ j, j < n → ((List.replicate n (P.cellsOf e)).take j).sum = j * P.cellsOf e := by
          intro j hj
          rw [List.take_replicate, List.sum_replicate_nat, Nat.min_eq_left (by omega)]
        obtain ⟨ac, g1, g2, g3⟩ := parts (R := Mem w) (List.replicate n (P.cellsOf e)) cs (fun j ac => Ty P fuel e ac) W (by rw [hc, k2, List.sum_replicate_nat]) (fun j m hj => by
          have hj' : j < n := by have := (List.getElem?_eq_some_iff.1 hj).1; simpa using this
          have hm : m = P.cellsOf e := by simp [List.getElem?_replicate, hj'] at hj; exact hj.symm
          subst hm
          obtain ⟨x, hx, h5⟩ := F2.get hF j j (by simp [hj'])
          obtain ⟨ac, q1, q2, q3⟩ := ih _ _ x.1 x.2 k1 h5
          refine ⟨ac, ?_, q2, by rw [hW1 j x hx]; exact q3⟩
          rw [hrep j hj']
          exact q1)
        refine ⟨ac, g1, ?_, ?_⟩
        · rw [Ty, hu]
          refine ⟨by rw [F2.length g1, hc], fun i hi => ?_⟩
          have := g2 i (P.cellsOf e) (by simp [List.getElem?_replicate, hi])
          rwa [hrep i hi] at this
        · simp only [Rows.uptoBulk, bulkAll_sum, List.map_map]
          rw [List.length_replicate, hW2] at g3
          have : (xs.map fun x => Rows.uptoBulk x.1) = xs.map (Rows.uptoBulk ∘ Prod.fst) := rfl
          rw [← this]
          omega
      · cases h
    all_goals (rename_i hu; first | (rw [hu] at hs; cases hs; done) | (cases h; done) | skip)

end
end Go.Ab
