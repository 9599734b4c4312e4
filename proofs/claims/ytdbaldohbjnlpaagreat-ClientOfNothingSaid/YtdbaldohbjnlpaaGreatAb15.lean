/- Code and functions. -/
import Derived.Test.YtdbaldohbjnlpaaGreatAb14
set_option linter.unusedVariables false
set_option linter.unusedSimpArgs false
namespace Go.Ab

inductive ACode where
  | skip
  | seq (a b : ACode)
  | reg (xs : List AOper) (keep : List Nat)
  | regd (xs : List AOper) (p : Plan) (keep : List Nat)
  | cond (c : Opd) (a b : ACode)
  | block (id : Nat) (c : ACode)
  | loop (c : ACode)
  | exit (id : Nat)
  | ret

/-- The operations with what each waits for. -/
def withAfter : List Oper → List AOper → List AOper
  | o :: r, x :: r' => { x with after := (o.after.toList.filter (Region.binds .any ·)).map (·.on) } :: withAfter r r'
  | _, _ => []
/-- All that each operation waits for, whatever lies between. -/
def ancList : List AOper → List (List Nat) → List (List Nat)
  | [], acc => acc
  | x :: r, acc => ancList r (acc ++ [(x.after.foldl (fun s k => if s.contains k then s else (k :: acc.getD k []).foldl (fun s j => if s.contains j then s else j :: s) s) [])])
def regdOk (P : Program) (nt : Nat) (ops : Array Oper) (xs : List AOper) (p : Plan) : Bool :=
  opersOk P nt ops ops.toList xs && aftersOk ops.toList xs && ancOk xs (ancList xs []) && planOk xs (ancList xs []) [] (List.range xs.length) p

def chkCode (P : Program) (nt : Nat) : ACode → Code → Bool
  | .skip, c => (match c with | .skip => true | _ => false)
  | .seq a b, c => (match c with | .seq x y => chkCode P nt a x && chkCode P nt b y | _ => false)
  | .reg xs _, c => (match c with | .region _ ops draw => !draw && opersOk P nt ops ops.toList xs | _ => false)
  | .regd xs p _, c => (match c with
    | .region _ ops draw => draw && P.follows .mixedOrders && (ops.size == xs.length) && regdOk P nt ops (withAfter ops.toList xs) p
    | _ => false)
  | .cond t a b, c => (match c with | .cond u x y => opdOk u t && chkCode P nt a x && chkCode P nt b y | _ => false)
  | .block id a, c => (match c with | .block id' x => id' == id && chkCode P nt a x | _ => false)
  | .loop a, c => (match c with | .loop x => chkCode P nt a x | _ => false)
  | .exit id, c => (match c with | .exit id' => id' == id | _ => false)
  | .ret, c => (match c with | .ret => true | _ => false)

def wpA (P : Program) : ACode → St → (Exit → St → Prop) → Prop
  | .skip, S, Q => Q .normal S
  | .seq a b, S, Q => wpA P a S (fun e S' => match e with | .normal => wpA P b S' Q | e => Q e S')
  | .reg xs keep, S, Q => regA P xs S (fun S' => Q .normal ⟨keepE keep S'.env, S'.h, S'.n⟩)
  | .regd xs p keep, S, Q => regN P xs p S (fun S' => Q .normal ⟨keepE keep S'.env, S'.h, S'.n⟩)
  | .cond c a b, S, Q => match c.ev S.env with
    | .c (.bool t) => (t = true → wpA P a S Q) ∧ (t = false → wpA P b S Q)
    | _ => False
  | .block id c, S, Q => wpA P c S (fun e S' => match e with | .exit id' => if id' = id then Q .normal S' else Q (.exit id') S' | e => Q e S')
  | .loop c, S, Q => ∃ (I : St → Prop) (m : St → Nat), I S ∧ ∀ S', I S' → wpA P c S' (fun e S'' => match e with | .normal => I S'' ∧ m S'' < m S' | e => Q e S'')
  | .exit id, S, Q => Q (.exit id) S
  | .ret, S, Q => Q .ret S

theorem least_ex {p : Nat → Prop} (h : ∃ k, p k) : ∃ k, p k ∧ ∀ j, p j → k ≤ j := by
  obtain ⟨k, hk⟩ := h
  induction k using Nat.strongRecOn with
  | _ k ih =>
    by_cases hc : ∃ j, p j ∧ j < k
    · obtain ⟨j, hj, hlt⟩ := hc
      exact ih j hlt hj
    · refine ⟨k, hk, fun j hj => ?_⟩
      by_cases hlt : j < k
      · exact absurd ⟨j, hj, hlt⟩ hc
      · omega
/-- The least number of which something holds. -/
noncomputable def sInf_ (p : Nat → Prop) : Nat := open Classical in if h : ∃ k, p k then (least_ex h).choose else 0
theorem sInf_mem {p : Nat → Prop} (h : ∃ k, p k) : p (sInf_ p) := by
  unfold sInf_
  rw [dif_pos h]
  exact (least_ex h).choose_spec.1
theorem sInf_le {p : Nat → Prop} {j : Nat} (hj : p j) : sInf_ p ≤ j := by
  unfold sInf_
  rw [dif_pos ⟨j, hj⟩]
  exact (least_ex ⟨j, hj⟩).choose_spec.2 j hj

section
variable {P : Program} {nt : Nat}

/-- What stands behind code. -/
def AfterE (P : Program) (nt : Nat) (G : Ghost) (S : St) (w : World) (Q : Exit → St → Prop) (e : Exit) (a' : Act) (w' : World) : Prop :=
  ∃ S' G', Q e S' ∧ EnvRep G' nt S'.env a' ∧ Inv G' S'.h w' ∧ Ext G S.h S.n w G' S'.h S'.n w'

theorem opersOk_get {ops : Array Oper} : ∀ {l : List Oper} {xs : List AOper}, opersOk P nt ops l xs = true → l.length = xs.length ∧ ∀ (i : Nat) (o : Oper) (x : AOper), l[i]? = some o → xs[i]? = some x → operOk P nt ops o x = true
  | [], [], _ => ⟨rfl, fun i o x h => by simp at h⟩
  | o :: l, x :: xs, h => by
    simp only [opersOk, Bool.and_eq_true] at h
    obtain ⟨h1, h2⟩ := opersOk_get h.2
    refine ⟨by simp [h1], fun i o' x' ho hx => ?_⟩
    cases i with
    | zero => simp at ho hx; subst ho; subst hx; exact h.1
    | succ i => simp at ho hx; exact h2 i o' x' ho hx
  | [], _ :: _, h => by simp [opersOk] at h
  | _ :: _, [], h => by simp [opersOk] at h

theorem aftersOk_get : ∀ {l : List Oper} {xs : List AOper}, aftersOk l xs = true → ∀ (i : Nat) (o : Oper) (x : AOper), l[i]? = some o → xs[i]? = some x →
    (∀ e ∈ o.after, Region.binds .any e = true → e.on ∈ x.after) ∧ (∀ k ∈ x.after, ∃ e ∈ o.after, Region.binds .any e = true ∧ e.on = k)
  | [], _, _, i, o, x, h, _ => by simp at h
  | _ :: _, [], h, _, _, _, _, _ => by simp [aftersOk] at h
  | o :: l, x :: xs, h, i, o', x', ho, hx => by
    simp only [aftersOk, Bool.and_eq_true] at h
    cases i with
    | zero =>
      simp at ho hx; subst ho; subst hx
      obtain ⟨⟨h1, h2⟩, _⟩ := h
      refine ⟨fun e he hb => ?_, fun k hk => ?_⟩
      · have := List.all_eq_true.1 h1 e (List.mem_filter.2 ⟨by simpa using he, hb⟩)
        simpa using this
      · have := List.all_eq_true.1 h2 k hk
        simp only [List.any_eq_true, Bool.and_eq_true, beq_iff_eq] at this
        obtain ⟨e, he, hb, rfl⟩ := this
        exact ⟨e, by simpa using he, hb, rfl⟩
    | succ i => simp at ho hx; exact aftersOk_get h.2 i o' x' ho hx

theorem regN_sound {ops : Array Oper} {xs : List AOper} {anc : List (List Nat)} {p : Plan} {id : Nat} (h1 : P.follows .mixedOrders = true) (h2 : opersOk P nt ops ops.toList xs = true) (h3 : aftersOk ops.toList xs = true) (h4 : ancOk xs anc = true)
    (h5 : planOk xs anc [] (List.range xs.length) p = true) {G : Ghost} {S : St} {a : Act} {w : World} (he : EnvRep G nt S.env a) (hi : Inv G S.h w) (hf : Fresh G S.h S.n) {K : St → Prop} (hs : regN P xs p S K) {Q : Exit → Act → World → Prop}
    (hQ : ∀ a' w', After P nt G S w K a' w' → Q .normal a' w') : (Code.region id ops true).wp P Q a w := by
  refine wp_region_any h1 ?_
  obtain ⟨h6, h7⟩ := opersOk_get h2
  have hR : Reg P nt ops xs := ⟨by rw [← h6]; simp, fun i o x ho hx => h7 i o x (by simpa using ho) hx, fun i o x ho hx => (aftersOk_get h3 i o x (by simpa using ho) hx).1, fun i o x ho hx => (aftersOk_get h3 i o x (by simpa using ho) hx).2⟩
  have hnl : ∀ k, ¬ L (Array.replicate ops.size false) k := fun k => by
    unfold L
    by_cases hk : k < ops.size <;> simp [hk]
  refine walk_sound (K := K) (G0 := G) (S0 := S) (w0 := w) hR h4 hQ ops.size _ (by simp) ?_ p [] (List.range xs.length) S G a _ ⟨h5, fun k hk => .inr (List.mem_range.2 hk), fun k hk => List.mem_range.1 hk, (fun k hk => by cases hk), List.nodup_range, (fun k hk => absurd hk (hnl k)), (fun k hk => by cases hk), (fun k hk => absurd hk (hnl k)), (fun i k hi' => by cases hi'), hs, hi.same (Same.drew w), Ext.of_same (.refl G) rfl (Same.drew w) hf, he.size, he.defers, (fun t _ => he.at_ t), (fun k x d hk => by cases hk)⟩
  unfold left_
  exact Nat.le_trans List.countP_le_length (by simp)

theorem withAfter_get : ∀ (l : List Oper) (xs : List AOper), l.length = xs.length → ∀ (i : Nat), (withAfter l xs)[i]? = none ∧ xs[i]? = none ∨ ∃ x af, xs[i]? = some x ∧ (withAfter l xs)[i]? = some { x with after := af }
  | [], [], _, i => .inl ⟨by simp [withAfter], by simp⟩
  | o :: l, x :: xs, h, i => by
    cases i with
    | zero => exact .inr ⟨x, _, by simp, by simp [withAfter]; rfl⟩
    | succ i => simpa [withAfter] using withAfter_get l xs (by simpa using h) i
  | [], _ :: _, h, _ => by simp at h
  | _ :: _, [], h, _ => by simp at h

theorem operA_after {x : AOper} {af : List Nat} {S : St} {K K' : St → Prop} (hK : ∀ S, K S → K' S) (h : operA P x S K) : operA P { x with after := af } S K' := by
  have st : ∀ S, stepA P x S K → stepA P { x with after := af } S K' := fun S hs => stepA_mono (o := { x with after := af }) (K := K) hK hs
  unfold operA at h ⊢
  simp only
  cases hg : x.guard with
  | none => rw [hg] at h; exact st S h
  | some g =>
    obtain ⟨t, want⟩ := g
    rw [hg] at h
    simp only at h ⊢
    split
    · rename_i b hb
      rw [hb] at h
      exact ⟨fun e => st _ (h.1 e), fun e => hK _ (h.2 e)⟩
    · rename_i hb
      rw [hb] at h
      exact hK _ h
    · rename_i h1 h2
      split at h
      · rename_i b hb; exact absurd hb (h1 b)
      · rename_i hb; exact absurd hb h2
      · exact h

theorem floatA_after {x : AOper} {af : List Nat} {S : St} {K K' : St → Prop} (hK : ∀ S, K S → K' S) (h : floatA x S K) : floatA { x with after := af } S K' := by
  unfold floatA at h ⊢
  simp only
  cases hg : x.guard with
  | none =>
    rw [hg] at h
    simp only at h ⊢
    cases hf : fl x.op S.env S.h with
    | none => rw [hf] at h; exact h
    | some r => rw [hf] at h; exact ⟨h.1, hK _ h.2⟩
  | some g =>
    obtain ⟨t, want⟩ := g
    rw [hg] at h
    simp only at h ⊢
    split
    · rename_i b hb
      rw [hb] at h
      refine ⟨fun e => ?_, fun e => hK _ (h.2 e)⟩
      have := h.1 e
      cases hf : fl x.op ((t, .c (.bool want)) :: S.env) S.h with
      | none => rw [hf] at this; exact this
      | some r => rw [hf] at this; exact ⟨this.1, hK _ this.2⟩
    · rename_i hb
      rw [hb] at h
      exact hK _ h
    · rename_i h1 h2
      split at h
      · rename_i b hb; exact absurd hb (h1 b)
      · rename_i hb; exact absurd hb h2
      · exact h

theorem stables_after {l : List Oper} {xs : List AOper} (hl : l.length = xs.length) {S : St} : ∀ (c : List Nat), stables xs S c → stables (withAfter l xs) S c
  | [], h => h
  | k :: c, h => by
    simp only [stables] at h ⊢
    refine ⟨?_, stables_after hl c h.2⟩
    rcases withAfter_get l xs hl k with ⟨h1, h2⟩ | ⟨x, af, h1, h2⟩
    · rw [h1]; rw [h2] at h; exact h.1
    · rw [h2]; rw [h1] at h; exact h.1

theorem regN_after {l : List Oper} {xs : List AOper} (hl : l.length = xs.length) {K : St → Prop} : ∀ (p : Plan) (S : St), regN P xs p S K → regN P (withAfter l xs) p S K := by
  intro p
  induction p with
  | done => exact fun S h => h
  | fl i r ih =>
    intro S h
    simp only [regN] at h ⊢
    rcases withAfter_get l xs hl i with ⟨h1, h2⟩ | ⟨x, af, h1, h2⟩
    · rw [h1]; rw [h2] at h; exact h
    · rw [h2]; rw [h1] at h; exact floatA_after (fun S' h' => ih S' h') h
  | ch i c r ih =>
    intro S h
    simp only [regN] at h ⊢
    rcases withAfter_get l xs hl i with ⟨h1, h2⟩ | ⟨x, af, h1, h2⟩
    · rw [h1]; rw [h2] at h; exact h
    · rw [h2]; rw [h1] at h; exact operA_after (fun S' h' => ⟨stables_after hl c h'.1, ih S' h'.2⟩) h
  | alt i c r j d s ih1 ih2 =>
    intro S h
    simp only [regN] at h ⊢
    refine ⟨?_, ?_⟩
    · rcases withAfter_get l xs hl i with ⟨h1, h2⟩ | ⟨x, af, h1, h2⟩
      · rw [h1]; rw [h2] at h; exact h.1
      · rw [h2]; rw [h1] at h; exact operA_after (fun S' h' => ⟨stables_after hl c h'.1, ih1 S' h'.2⟩) h.1
    · rcases withAfter_get l xs hl j with ⟨h1, h2⟩ | ⟨x, af, h1, h2⟩
      · rw [h1]; rw [h2] at h; exact h.2
      · rw [h2]; rw [h1] at h; exact operA_after (fun S' h' => ⟨stables_after hl d h'.1, ih2 S' h'.2⟩) h.2

theorem wpA_sound : ∀ (ac : ACode) (c : Code) (G : Ghost) (S : St) (a : Act) (w : World) (Q : Exit → St → Prop), chkCode P nt ac c = true → EnvRep G nt S.env a → Inv G S.h w → Fresh G S.h S.n → wpA P ac S Q → c.wp P (AfterE P nt G S w Q) a w := by
  intro ac
  induction ac with
  | skip =>
    intro c G S a w Q hk he hi hf hs
    simp only [chkCode] at hk
    split at hk
    · exact wp_skip ⟨S, G, hs, he, hi, Ext.refl w hf⟩
    · cases hk
  | ret =>
    intro c G S a w Q hk he hi hf hs
    simp only [chkCode] at hk
    split at hk
    · exact wp_ret ⟨S, G, hs, he, hi, Ext.refl w hf⟩
    · cases hk
  | exit id =>
    intro c G S a w Q hk he hi hf hs
    simp only [chkCode] at hk
    split at hk
    · simp at hk; subst hk
      exact wp_exit ⟨S, G, hs, he, hi, Ext.refl w hf⟩
    · cases hk
  | seq x y ihx ihy =>
    intro c G S a w Q hk he hi hf hs
    simp only [chkCode] at hk
    split at hk
    · simp only [Bool.and_eq_true] at hk
      refine wp_seq (wp_mono (ihx _ G S a w _ hk.1 he hi hf hs) fun e a' w' ⟨S', G', h1, h2, h3, h4⟩ => ?_)
      cases e with
      | normal => exact wp_mono (ihy _ G' S' a' w' Q hk.2 h2 h3 h4.fresh h1) fun e'' a'' w'' ⟨S'', G'', k1, k2, k3, k4⟩ => ⟨S'', G'', k1, k2, k3, h4.trans k4⟩
      | _ => exact ⟨S', G', h1, h2, h3, h4⟩
    · cases hk
  | reg xs keep =>
    intro c G S a w Q hk he hi hf hs
    simp only [chkCode] at hk
    split at hk
    · rename_i id ops draw
      simp only [Bool.and_eq_true, Bool.not_eq_true'] at hk
      obtain ⟨rfl, hk⟩ := hk
      exact wp_region_list (regA_sound _ _ G S a w hk he hi hf hs fun a' w' ⟨S', G', h1, h2, h3, h4⟩ => ⟨_, G', h1, h2.keep keep, h3, h4⟩)
    · cases hk
  | regd xs p keep =>
    intro c G S a w Q hk he hi hf hs
    simp only [chkCode] at hk
    split at hk
    · rename_i id ops draw
      simp only [Bool.and_eq_true, regdOk] at hk
      obtain ⟨⟨⟨rfl, h1⟩, hlen⟩, ⟨⟨h2, h3⟩, h4⟩, h5⟩ := hk
      have hlen : ops.toList.length = xs.length := by simpa using hlen
      exact regN_sound h1 h2 h3 h4 h5 he hi hf (regN_after hlen p S hs) fun a' w' ⟨S', G', k1, k2, k3, k4⟩ => ⟨_, G', k1, k2.keep keep, k3, k4⟩
    · cases hk
  | cond t x y ihx ihy =>
    intro c G S a w Q hk he hi hf hs
    simp only [chkCode] at hk
    split at hk
    · simp only [Bool.and_eq_true] at hk
      simp only [wpA] at hs
      split at hs
      · rename_i b hb
        have hev := opd_cell he hk.1.1 hb
        refine wp_cond_split hev (fun hbt => ihx _ G S a w Q hk.1.2 he hi hf (hs.1 hbt)) (fun hbf => ihy _ G S a w Q hk.2 he hi hf (hs.2 hbf))
      · exact hs.elim
    · cases hk
  | block id x ih =>
    intro c G S a w Q hk he hi hf hs
    simp only [chkCode] at hk
    split at hk
    · simp only [Bool.and_eq_true, beq_iff_eq] at hk
      obtain ⟨rfl, hk⟩ := hk
      refine wp_block (wp_mono (ih _ G S a w _ hk he hi hf hs) fun e a' w' ⟨S', G', h1, h2, h3, h4⟩ => ?_)
      cases e with
      | exit id' =>
        simp only [Exit.inBlock] at h1 ⊢
        split
        · rename_i hid; rw [if_pos hid] at h1; exact ⟨S', G', h1, h2, h3, h4⟩
        · rename_i hid; rw [if_neg hid] at h1; exact ⟨S', G', h1, h2, h3, h4⟩
      | _ => exact ⟨S', G', h1, h2, h3, h4⟩
    · cases hk
  | loop x ih =>
    intro c G S a w Q hk he hi hf hs
    simp only [chkCode] at hk
    split at hk
    · simp only [wpA] at hs
      obtain ⟨I, m, h0, hround⟩ := hs
      rename_i body
      -- the rounds that are left
      have key : ∀ n G' S' a' w', I S' → m S' = n → EnvRep G' nt S'.env a' → Inv G' S'.h w' → Ext G S.h S.n w G' S'.h S'.n w' → (Code.loop body).wp P (AfterE P nt G S w Q) a' w' := by
        intro n G' S' a' w' h1 h2 h3 h4 h5
        refine wp_loop (fun a2 w2 => ∃ S2 G2, I S2 ∧ EnvRep G2 nt S2.env a2 ∧ Inv G2 S2.h w2 ∧ Ext G S.h S.n w G2 S2.h S2.n w2) (fun a2 w2 => sInf_ fun k => ∃ S2 G2, I S2 ∧ EnvRep G2 nt S2.env a2 ∧ Inv G2 S2.h w2 ∧ Ext G S.h S.n w G2 S2.h S2.n w2 ∧ m S2 = k) ⟨S', G', h1, h3, h4, h5⟩ fun a2 w2 hI => ?_
        obtain ⟨S2, G2, k1, k2, k3, k4, k5⟩ := sInf_mem (p := fun k => ∃ S2 G2, I S2 ∧ EnvRep G2 nt S2.env a2 ∧ Inv G2 S2.h w2 ∧ Ext G S.h S.n w G2 S2.h S2.n w2 ∧ m S2 = k) (by
          obtain ⟨S2, G2, k1, k2, k3, k4⟩ := hI
          exact ⟨_, S2, G2, k1, k2, k3, k4, rfl⟩)
        refine wp_mono (ih body G2 S2 a2 w2 _ hk k2 k3 k4.fresh (hround S2 k1)) fun e a3 w3 ⟨S3, G3, q1, q2, q3, q4⟩ => ?_
        cases e with
        | normal =>
          refine ⟨⟨S3, G3, q1.1, q2, q3, k4.trans q4⟩, ?_⟩
          refine Nat.lt_of_le_of_lt (sInf_le ⟨S3, G3, q1.1, q2, q3, k4.trans q4, rfl⟩) ?_
          rw [← k5]
          exact q1.2
        | _ => exact ⟨S3, G3, q1, q2, q3, k4.trans q4⟩
      exact key _ G S a w h0 rfl he hi (Ext.refl w hf)
    · cases hk

end
end Go.Ab
