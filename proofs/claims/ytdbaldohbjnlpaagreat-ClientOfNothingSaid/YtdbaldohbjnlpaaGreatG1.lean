import Derived.Test.YtdbaldohbjnlpaaGreatCode0
set_option maxRecDepth 100000
set_option linter.unusedVariables false
set_option linter.unusedSimpArgs false
namespace Go.Proofs.YtdbaldohbjnlpaaGreat
open Go.Ab

/-- The cells of a nested value, whatever it is. -/
inductive Val : List AC → Prop where
  | mk (k i s : Int) (text : List UInt8) (ns ks : List (List AC)) (c1 c2 : Cp) : ns.length ≤ 9223372036854775807 → ks.length ≤ 9223372036854775807 → (∀ x ∈ ks, Val x) →
      Val [.int .i64 k, .int .i64 i, .int .i64 s, .str text, .sl 1 ns c1, .sl 6 ks c2]
theorem Val.len {cells : List AC} (h : Val cells) : cells.length = 6 := by cases h; rfl

theorem dec_nlt {a b : Nat} (h : ¬ a < b) : decide ((a : Int) < (b : Int)) = false := by simp; omega
theorem get_row {ks : List (List AC)} {i : Nat} (h : i < ks.length) : ks.getD i [] = ks[i] := by simp [List.getD, h]
theorem dec_lt {a b : Nat} (h : a < b) : decide ((a : Int) < (b : Int)) = true := by simp; omega

theorem F24 {cells : List AC} (hv : Val cells) : ∀ (id : Nat) (k : Int) (h : Heap) (n : Nat), h id = some (.row [[.int .i64 k]]) →
    Ab.Fn Tryz.prog 24 [.agg cells, .c (.ptr id 0 0)] h n (fun r h' n' => ∃ b k', r = .c (.bool b) ∧ h' = h.upd id (.row [[.int .i64 k']]) ∧ n' = n) := by
  induction hv with
  | mk vk vi vs text ns ks c1 c2 hns hks hkid ih =>
  intro id k h n hid
  refine fn_introS p24 k24 rfl ?_
  simp only [c24, r24, fnS_eq, wpB_skip, wpB_seq, wpB_reg, wpB_regd, wpB_cond, wpB_block, wpB_exit, wpB_ret, wpB_loop, regB_nil, regB_o, regB_g, evI, evL, regN_done, regN_fl, regN_ch, regN_alt, stepA_call, seqK_normal, seqK_exit, seqK_ret, blockK_normal, blockK_exit, blockK_ret, keepK_ap, opK_ap, nK_ap, fK_ap, callK_ap, finK_normal, finK_ret, finHK_normal, finHK_ret, finH, finEK_normal, finEK_ret, finE, roundK_normal, roundK_exit, roundK_ret, roundA_normal, roundA_exit, roundA_ret, operA, stepA, floatA, stables, flG, finS, resV, mkRes, argEnv, putE, keepE, get_self, get_ne, Opd.ev, fl, ch, part_cell, part_agg, Ab.lay, fills, fillsOk, groups, viewV, AV.cells, List.isEmpty_cons, List.isEmpty_nil, List.cons_append, List.nil_append, List.append_nil, List.drop_nil, List.take_nil, bound, lenV, ldV, mlenV, iadrV, isNil, noTup, List.map, List.set_cons_zero, List.set_cons_succ, upd_self, upd_upd, List.all_cons, List.all_nil, List.length_cons, List.length_nil, Nat.reduceBEq, Nat.reduceAdd, Nat.reduceLT, Nat.reduceEqDiff, cond_true, cond_false, int64, bn_add, bn_sub, bn_mul, bn_quo, bn_rem, bn_and, bn_or, bn_xor, bn_andNot, bn_shl, bn_shr, bn_eq, bn_ne, bn_lt, bn_le, bn_gt, bn_ge, bn_eqb, bn_neb, bn_sadd, bn_seq, bn_sne, bn_slt, bn_sle, bn_sgt, bn_sge, bn_eqnil, bn_nenil, true_and, and_true, and_self, Bool.not_true, Bool.not_false, reduceCtorEq, false_implies, true_implies, forall_const, implies_true, or_false, or_true, true_or, false_or, Bool.and_self, Int.toNat_natCast, ge_iff_le, gt_iff_lt, if_true, if_false, ite_true, ite_false, List.getElem?_cons_zero, List.getElem?_cons_succ, List.drop_zero, List.drop_succ_cons, List.take_succ_cons, List.take_zero, Bool.true_eq_false, Bool.false_eq_true, eq_self, hid]
  refine ⟨by decide, loop_ind (fun a : Nat × Int => a.1 ≤ ks.length) (fun a => ⟨[(1, .c (.ptr id 0 0)), (2, .c (.rptr [.int .i64 vk, .int .i64 vi, .int .i64 vs, .str text, .sl 1 ns c1, .sl 6 ks c2])), (5, .c (.int .i64 a.1))], h.upd id (.row [[.int .i64 a.2]]), n⟩) (fun a => ks.length - a.1) (0, _) rfl (Nat.zero_le _) ?_⟩
  intro ⟨i, k'⟩ hi
  simp only at hi
  by_cases hlt : i < ks.length
  · simp only [fnS_eq, wpB_skip, wpB_seq, wpB_reg, wpB_regd, wpB_cond, wpB_block, wpB_exit, wpB_ret, wpB_loop, regB_nil, regB_o, regB_g, evI, evL, regN_done, regN_fl, regN_ch, regN_alt, stepA_call, seqK_normal, seqK_exit, seqK_ret, blockK_normal, blockK_exit, blockK_ret, keepK_ap, opK_ap, nK_ap, fK_ap, callK_ap, finK_normal, finK_ret, finHK_normal, finHK_ret, finH, finEK_normal, finEK_ret, finE, roundK_normal, roundK_exit, roundK_ret, roundA_normal, roundA_exit, roundA_ret, operA, stepA, floatA, stables, flG, finS, resV, mkRes, argEnv, putE, keepE, get_self, get_ne, Opd.ev, fl, ch, part_cell, part_agg, Ab.lay, fills, fillsOk, groups, viewV, AV.cells, List.isEmpty_cons, List.isEmpty_nil, List.cons_append, List.nil_append, List.append_nil, List.drop_nil, List.take_nil, bound, lenV, ldV, mlenV, iadrV, isNil, noTup, List.map, List.set_cons_zero, List.set_cons_succ, upd_self, upd_upd, List.all_cons, List.all_nil, List.length_cons, List.length_nil, Nat.reduceBEq, Nat.reduceAdd, Nat.reduceLT, Nat.reduceEqDiff, cond_true, cond_false, int64, bn_add, bn_sub, bn_mul, bn_quo, bn_rem, bn_and, bn_or, bn_xor, bn_andNot, bn_shl, bn_shr, bn_eq, bn_ne, bn_lt, bn_le, bn_gt, bn_ge, bn_eqb, bn_neb, bn_sadd, bn_seq, bn_sne, bn_slt, bn_sle, bn_sgt, bn_sge, bn_eqnil, bn_nenil, true_and, and_true, and_self, Bool.not_true, Bool.not_false, reduceCtorEq, false_implies, true_implies, forall_const, implies_true, or_false, or_true, true_or, false_or, Bool.and_self, Int.toNat_natCast, ge_iff_le, gt_iff_lt, if_true, if_false, ite_true, ite_false, List.getElem?_cons_zero, List.getElem?_cons_succ, List.drop_zero, List.drop_succ_cons, List.take_succ_cons, List.take_zero, Bool.true_eq_false, Bool.false_eq_true, eq_self, dec_lt hlt]
    refine ⟨fun _ => ?_, fun _ => ⟨_, _, rfl, rfl⟩⟩
    have hm : ks[i] ∈ ks := List.getElem_mem hlt
    rw [get_row hlt, List.take_of_length_le (by rw [(hkid _ hm).len]; exact Nat.le_refl _), (hkid _ hm).len]
    refine ⟨⟨by omega, by omega⟩, Nat.le_refl _, (ih _ hm id k' _ n (upd_self _ _ _)).mono fun r h' n' _ ⟨b, k'', h1, h2, h3⟩ => ?_⟩
    subst h1; subst h2; subst h3
    refine ⟨(i + 1, k''), hlt, ?_, by simp only; omega⟩
    rw [w64 (by omega) (by omega), upd_upd]
    rfl
  · simp only [fnS_eq, wpB_skip, wpB_seq, wpB_reg, wpB_regd, wpB_cond, wpB_block, wpB_exit, wpB_ret, wpB_loop, regB_nil, regB_o, regB_g, evI, evL, regN_done, regN_fl, regN_ch, regN_alt, stepA_call, seqK_normal, seqK_exit, seqK_ret, blockK_normal, blockK_exit, blockK_ret, keepK_ap, opK_ap, nK_ap, fK_ap, callK_ap, finK_normal, finK_ret, finHK_normal, finHK_ret, finH, finEK_normal, finEK_ret, finE, roundK_normal, roundK_exit, roundK_ret, roundA_normal, roundA_exit, roundA_ret, operA, stepA, floatA, stables, flG, finS, resV, mkRes, argEnv, putE, keepE, get_self, get_ne, Opd.ev, fl, ch, part_cell, part_agg, Ab.lay, fills, fillsOk, groups, viewV, AV.cells, List.isEmpty_cons, List.isEmpty_nil, List.cons_append, List.nil_append, List.append_nil, List.drop_nil, List.take_nil, bound, lenV, ldV, mlenV, iadrV, isNil, noTup, List.map, List.set_cons_zero, List.set_cons_succ, upd_self, upd_upd, List.all_cons, List.all_nil, List.length_cons, List.length_nil, Nat.reduceBEq, Nat.reduceAdd, Nat.reduceLT, Nat.reduceEqDiff, cond_true, cond_false, int64, bn_add, bn_sub, bn_mul, bn_quo, bn_rem, bn_and, bn_or, bn_xor, bn_andNot, bn_shl, bn_shr, bn_eq, bn_ne, bn_lt, bn_le, bn_gt, bn_ge, bn_eqb, bn_neb, bn_sadd, bn_seq, bn_sne, bn_slt, bn_sle, bn_sgt, bn_sge, bn_eqnil, bn_nenil, true_and, and_true, and_self, Bool.not_true, Bool.not_false, reduceCtorEq, false_implies, true_implies, forall_const, implies_true, or_false, or_true, true_or, false_or, Bool.and_self, Int.toNat_natCast, ge_iff_le, gt_iff_lt, if_true, if_false, ite_true, ite_false, List.getElem?_cons_zero, List.getElem?_cons_succ, List.drop_zero, List.drop_succ_cons, List.take_succ_cons, List.take_zero, Bool.true_eq_false, Bool.false_eq_true, eq_self, dec_nlt hlt]
    exact ⟨_, _, rfl, rfl⟩
end Go.Proofs.YtdbaldohbjnlpaaGreat
