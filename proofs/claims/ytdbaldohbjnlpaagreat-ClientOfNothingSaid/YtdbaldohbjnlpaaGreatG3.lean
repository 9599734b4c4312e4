import Derived.Test.YtdbaldohbjnlpaaGreatG2
import Derived.Test.YtdbaldohbjnlpaaGreatKc
import Derived.Test.YtdbaldohbjnlpaaGreatAb33
import Derived.Test.YtdbaldohbjnlpaaGreatAb34
set_option maxRecDepth 100000
set_option linter.unusedVariables false
set_option linter.unusedSimpArgs false
namespace Go.Proofs.YtdbaldohbjnlpaaGreat
open Go.Ab

theorem maxLen_eq : maxLen = 9223372036854775807 := by kernel_rfl
theorem cells3 : Tryz.prog.cellsOf 3 = 1 := by kernel_rfl
theorem cells5 : Tryz.prog.cellsOf 5 = 1 := by kernel_rfl
theorem cells9 : Tryz.prog.cellsOf 9 = 1 := by kernel_rfl
theorem cells39 : Tryz.prog.cellsOf 39 = 1 := by kernel_rfl
theorem cells46 : Tryz.prog.cellsOf 46 = 1 := by kernel_rfl
theorem cells47 : Tryz.prog.cellsOf 47 = 1 := by kernel_rfl
theorem cells57 : Tryz.prog.cellsOf 57 = 3 := by kernel_rfl
theorem cells67 : Tryz.prog.cellsOf 67 = 2 := by kernel_rfl
theorem cells83 : Tryz.prog.cellsOf 83 = 1 := by kernel_rfl
theorem cells85 : Tryz.prog.cellsOf 85 = 6 := by kernel_rfl

theorem ty3 {fuel : Nat} {x : AC} (h : Ty Tryz.prog fuel 3 [x]) : ∃ n, x = .int .i64 n := by
  cases fuel with
  | zero => exact h.elim
  | succ m =>
    rw [Ty, Tryz.underlying3] at h
    obtain ⟨n, h1, _⟩ := h
    exact ⟨n, by simpa using h1⟩
theorem ty9 {fuel : Nat} {x : AC} (h : Ty Tryz.prog fuel 9 [x]) : ∃ s, x = .str s := by
  cases fuel with
  | zero => exact h.elim
  | succ m =>
    rw [Ty, Tryz.underlying9] at h
    obtain ⟨s, h1, _⟩ := h
    exact ⟨s, by simpa using h1⟩
theorem tySl {t e : TypeId} (hu : Tryz.prog.underlying t = some (.slice e)) {fuel : Nat} {x : AC} (h : Ty Tryz.prog fuel t [x]) : ∃ es c, x = .sl (Tryz.prog.cellsOf e) es c ∧ es.length ≤ 9223372036854775807 ∧ ∀ y ∈ es, ∃ m, m < fuel ∧ Ty Tryz.prog m e y := by
  cases fuel with
  | zero => exact h.elim
  | succ m =>
    rw [Ty, hu] at h
    obtain ⟨es, c, h1, h2, _, h4⟩ := h
    exact ⟨es, c, by simpa using h1, by rw [maxLen_eq] at h2; exact h2, fun y hy => ⟨m, Nat.lt_succ_self _, h4 y hy⟩⟩

theorem tyV : ∀ (fuel : Nat) (cs : List AC), Ty Tryz.prog fuel 85 cs → Val cs := by
  intro fuel
  induction fuel using Nat.strongRecOn with
  | _ fuel ih =>
    intro cs h
    cases fuel with
    | zero => exact h.elim
    | succ m =>
      rw [Ty, Tryz.underlying85] at h
      obtain ⟨hl, hf⟩ := h
      rw [cells85] at hl
      match cs, hl with
      | [a, b, c, d, e, f], _ =>
        simp only [List.forall_mem_cons, cells3, cells9, cells83, cells46, List.drop_succ_cons, List.drop_zero, List.take_succ_cons, List.take_zero] at hf
        obtain ⟨h1, h2, h3, h4, h5, h6, _⟩ := hf
        obtain ⟨k, rfl⟩ := ty3 h1
        obtain ⟨i, rfl⟩ := ty3 h2
        obtain ⟨s, rfl⟩ := ty3 h3
        obtain ⟨t, rfl⟩ := ty9 h4
        obtain ⟨ns, c1, rfl, l1, _⟩ := tySl Tryz.underlying83 h5
        obtain ⟨ks, c2, rfl, l2, h7⟩ := tySl Tryz.underlying46 h6
        rw [cells9, cells85]
        exact .mk k i s t ns ks c1 c2 l1 l2 fun x hx => by
          obtain ⟨m', hm', h8⟩ := h7 x hx
          exact ih m' (by omega) x h8
theorem tyS {fuel : Nat} {cs : List AC} (h : Ty Tryz.prog fuel 67 cs) : StC cs := by
  cases fuel with
  | zero => exact h.elim
  | succ m =>
    rw [Ty, Tryz.underlying67] at h
    obtain ⟨hl, hf⟩ := h
    rw [cells67] at hl
    match cs, hl with
    | [a, b], _ =>
      simp only [List.forall_mem_cons, cells9, cells46, List.drop_succ_cons, List.drop_zero, List.take_succ_cons, List.take_zero] at hf
      obtain ⟨h1, h2, _⟩ := hf
      obtain ⟨t, rfl⟩ := ty9 h1
      obtain ⟨ps, c, rfl, l1, h3⟩ := tySl Tryz.underlying46 h2
      rw [cells85]
      exact ⟨t, ps, c, rfl, l1, fun p hp => by obtain ⟨m', _, h4⟩ := h3 p hp; exact tyV m' p h4⟩

theorem tyMsg {x : AV} (h : TyA Tryz.prog 57 x) : ∃ f t es c, x = .agg [.int .i64 f, .int .i64 t, .sl 1 es c] ∧ es.length ≤ 9223372036854775807 := by
  obtain ⟨ac, fuel, h1, h2⟩ := h
  have hr : rowT Tryz.prog 57 = true := by kernel_rfl
  rcases h2 with ⟨_, rfl⟩ | ⟨h2, _⟩
  · cases fuel with
    | zero => exact h1.elim
    | succ m =>
      rw [Ty, Tryz.underlying57] at h1
      obtain ⟨hl, hf⟩ := h1
      rw [cells57] at hl
      match ac, hl with
      | [a, b, c], _ =>
        simp only [List.forall_mem_cons, cells3, cells47, List.drop_succ_cons, List.drop_zero, List.take_succ_cons, List.take_zero] at hf
        obtain ⟨h1, h2, h3, _⟩ := hf
        obtain ⟨f, rfl⟩ := ty3 h1
        obtain ⟨t, rfl⟩ := ty3 h2
        obtain ⟨es, c, rfl, l1, _⟩ := tySl Tryz.underlying47 h3
        rw [cells5]
        exact ⟨f, t, es, c, rfl, l1⟩
  · rw [hr] at h2; cases h2
theorem tyJob {x : AV} (h : TyA Tryz.prog 39 x) : ∃ es c, x = .c (.sl 2 es c) ∧ es.length ≤ 9223372036854775807 ∧ ∀ e ∈ es, StC e := by
  obtain ⟨ac, fuel, h1, h2⟩ := h
  have hr : rowT Tryz.prog 39 = false := by kernel_rfl
  rcases h2 with ⟨h2, _⟩ | ⟨_, c, rfl, rfl⟩
  · rw [hr] at h2; cases h2
  · obtain ⟨es, c, rfl, l1, h3⟩ := tySl Tryz.underlying39 h1
    rw [cells67]
    exact ⟨es, c, rfl, l1, fun e he => by obtain ⟨m, _, h4⟩ := h3 e he; exact tyS h4⟩

def kHints : Hints := [(11, [], .c (.bool true))]
theorem kHintsOk : HintsOk Tryz.prog kHints := ⟨closed_gives (H0 := []) tabOk trivial 3000 60 11 [] (.c (.bool true)) (by kernel_rfl) (by kernel_rfl) known_run, trivial⟩

/-- What stands behind the first question. -/
def rest5 : BCode := match c5 with
  | .seq _ (.seq _ r) => r
  | _ => .skip
theorem c5_eq : c5 = .seq (.reg [B 2 (.boxR (.t 0)), B 4 (.asg (.k (.c (.bool false))))] [1, 2])
  (.seq (.seq (.reg [B 12 (.fadr 2 (.t 2)), B 13 (.load false 1 (.t 12)), B 14 (.len (.t 13)), B 15 (.bin .gt (.t 14) (.k (.c (.int .i64 1000)))), B 16 (.mv (.t 15)), Bg 17 (.mv (.t 1)) 16 false, Bg 18 (.slR 1 1 [.sl 2 [] .nil] [(0, 1, (.t 17))]) 16 false, Bg 19 (.call 10 [(.t 18)]) 16 false, B 20 (.pick (.t 16) (.k (.c (.bool true))) (.t 19))] [1, 2, 20])
  (.cond (.t 20) (.seq (.reg [B 4 (.asg (.k (.c (.bool true))))] [4])
  .ret)
  .skip)) rest5) := rfl

theorem run5 (f t : Int) (ds : List (List AC)) (c : Cp) (js : List (List AC)) (c' : Cp) :
    endsB [.tmp 4] (.c (.bool true)) (codeE (withH [11] kHints (fnE tab [11] kHints 3000 60)) 3000 rest5
      ⟨[(1, .c (.sl 2 js c')), (2, .c (.rptr [.int .i64 f, .int .i64 t, .sl 1 ds c])), (20, .c (.bool false))], [], 1⟩) = true := by kernel_rfl

theorem F5 (f t : Int) (ds : List (List AC)) (c : Cp) (js : List (List AC)) (c' : Cp) (hds : ds.length ≤ 9223372036854775807) (hjs : js.length ≤ 9223372036854775807) (hj : ∀ e ∈ js, StC e) :
    Ab.Fn Tryz.prog 5 [.agg [.int .i64 f, .int .i64 t, .sl 1 ds c], .c (.sl 2 js c')] (fun _ => none) 0 (fun r _ _ => r = .c (.bool true)) := by
  refine fn_introS p5 k5 rfl ?_
  by_cases hlen : 1000 < ds.length
  · have hd : decide ((1000 : Int) < (ds.length : Int)) = true := by simp; omega
    simp only [c5_eq, r5, fnS_eq, wpB_skip, wpB_seq, wpB_reg, wpB_regd, wpB_cond, wpB_block, wpB_exit, wpB_ret, wpB_loop, regB_nil, regB_o, regB_g, evI, evL, regN_done, regN_fl, regN_ch, regN_alt, stepA_call, seqK_normal, seqK_exit, seqK_ret, blockK_normal, blockK_exit, blockK_ret, keepK_ap, opK_ap, nK_ap, fK_ap, callK_ap, finK_normal, finK_ret, finHK_normal, finHK_ret, finH, finEK_normal, finEK_ret, finE, roundK_normal, roundK_exit, roundK_ret, roundA_normal, roundA_exit, roundA_ret, operA, stepA, floatA, stables, flG, finS, resV, mkRes, argEnv, putE, keepE, get_self, get_ne, Opd.ev, fl, ch, part_cell, part_agg, Ab.lay, fills, fillsOk, groups, viewV, AV.cells, List.isEmpty_cons, List.isEmpty_nil, List.cons_append, List.nil_append, List.append_nil, List.drop_nil, List.take_nil, bound, lenV, ldV, mlenV, iadrV, isNil, noTup, List.map, List.set_cons_zero, List.set_cons_succ, upd_self, upd_upd, List.all_cons, List.all_nil, List.length_cons, List.length_nil, Nat.reduceBEq, Nat.reduceAdd, Nat.reduceLT, Nat.reduceEqDiff, cond_true, cond_false, int64, bn_add, bn_sub, bn_mul, bn_quo, bn_rem, bn_and, bn_or, bn_xor, bn_andNot, bn_shl, bn_shr, bn_eq, bn_ne, bn_lt, bn_le, bn_gt, bn_ge, bn_eqb, bn_neb, bn_sadd, bn_seq, bn_sne, bn_slt, bn_sle, bn_sgt, bn_sge, bn_eqnil, bn_nenil, true_and, and_true, and_self, Bool.not_true, Bool.not_false, reduceCtorEq, false_implies, true_implies, forall_const, implies_true, or_false, or_true, true_or, false_or, Bool.and_self, Int.toNat_natCast, ge_iff_le, gt_iff_lt, if_true, if_false, ite_true, ite_false, List.getElem?_cons_zero, List.getElem?_cons_succ, List.drop_zero, List.drop_succ_cons, List.take_succ_cons, List.take_zero, Bool.true_eq_false, Bool.false_eq_true, eq_self, hd]
  · have hd : decide ((1000 : Int) < (ds.length : Int)) = false := by simp; omega
    simp only [c5_eq, r5, fnS_eq, wpB_skip, wpB_seq, wpB_reg, wpB_regd, wpB_cond, wpB_block, wpB_exit, wpB_ret, wpB_loop, regB_nil, regB_o, regB_g, evI, evL, regN_done, regN_fl, regN_ch, regN_alt, stepA_call, seqK_normal, seqK_exit, seqK_ret, blockK_normal, blockK_exit, blockK_ret, keepK_ap, opK_ap, nK_ap, fK_ap, callK_ap, finK_normal, finK_ret, finHK_normal, finHK_ret, finH, finEK_normal, finEK_ret, finE, roundK_normal, roundK_exit, roundK_ret, roundA_normal, roundA_exit, roundA_ret, operA, stepA, floatA, stables, flG, finS, resV, mkRes, argEnv, putE, keepE, get_self, get_ne, Opd.ev, fl, ch, part_cell, part_agg, Ab.lay, fills, fillsOk, groups, viewV, AV.cells, List.isEmpty_cons, List.isEmpty_nil, List.cons_append, List.nil_append, List.append_nil, List.drop_nil, List.take_nil, bound, lenV, ldV, mlenV, iadrV, isNil, noTup, List.map, List.set_cons_zero, List.set_cons_succ, upd_self, upd_upd, List.all_cons, List.all_nil, List.length_cons, List.length_nil, Nat.reduceBEq, Nat.reduceAdd, Nat.reduceLT, Nat.reduceEqDiff, cond_true, cond_false, int64, bn_add, bn_sub, bn_mul, bn_quo, bn_rem, bn_and, bn_or, bn_xor, bn_andNot, bn_shl, bn_shr, bn_eq, bn_ne, bn_lt, bn_le, bn_gt, bn_ge, bn_eqb, bn_neb, bn_sadd, bn_seq, bn_sne, bn_slt, bn_sle, bn_sgt, bn_sge, bn_eqnil, bn_nenil, true_and, and_true, and_self, Bool.not_true, Bool.not_false, reduceCtorEq, false_implies, true_implies, forall_const, implies_true, or_false, or_true, true_or, false_or, Bool.and_self, Int.toNat_natCast, ge_iff_le, gt_iff_lt, if_true, if_false, ite_true, ite_false, List.getElem?_cons_zero, List.getElem?_cons_succ, List.drop_zero, List.drop_succ_cons, List.take_succ_cons, List.take_zero, Bool.true_eq_false, Bool.false_eq_true, eq_self, hd]
    refine ⟨Nat.le_refl _, (F10 [[.sl 2 js c']] .full (by show 1 ≤ 9223372036854775807; omega) (fun j hjm => ?_) _ _).mono fun r h' n' _ ⟨⟨b, e1⟩, e2, e3⟩ => ?_⟩
    · rw [List.mem_singleton] at hjm
      subst hjm
      exact ⟨js, c', rfl, hjs, hj⟩
    · subst e1; subst e2; subst e3
      intro hb
      subst hb
      exact rest_run (P := Tryz.prog) tabOk kHintsOk 3000 60 rest5 ⟨[(1, .c (.sl 2 js c')), (2, .c (.rptr [.int .i64 f, .int .i64 t, .sl 1 ds c])), (20, .c (.bool false))], [], 1⟩ (rs := [.tmp 4]) (.c (.bool true)) (by kernel_rfl) (run5 f t ds c js c') (fun _ _ => rfl)
end Go.Proofs.YtdbaldohbjnlpaaGreat
