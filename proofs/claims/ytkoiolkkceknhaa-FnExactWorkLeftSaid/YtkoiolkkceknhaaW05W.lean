/- The statement on WorkLeft, walked: whatever the list and the time, the answer is yes. -/
import Derived.Test.YtkoiolkkceknhaaF05L
import Derived.Test.YtkoiolkkceknhaaF05WI
import Derived.Test.YtkoiolkkceknhaaF05WS
set_option linter.unusedSimpArgs false
set_option linter.unusedVariables false
namespace Go.PM
variable {lo : Nat} {H : Heap}

theorem laws_FnExactWorkLeft_w (cs : List Cust) (time : Int) {a : Option Addr} {n c : Nat} (hA : Arr cc 3 H a n cs) (hn : n ≤ 140737488355328) :
    ∃ v H', pmCall 4 [.slice a n c, I time] H.length H = some (v, H') ∧ (v = .bool true) := by
  refine call_W laws_FnExactWorkLeft_t (Nat.le_of_ble_eq_true rfl) ?_
  have hsz := laws_szCustomerS_w (lo := H.length) (H := H) (a := a) (c := c) (left := 1000000) hn ⟨by omega, by omega⟩
  simp only [laws_FnExactWorkLeft, laws_FnExactWorkLeft_c, hsz, W_seq, W_reg, W_block, W_skip, W_exit, W_ret, WS_op, WS_nil, WS_guard_yes, WS_guard_no, WS_guard_un, W_cond_true, W_cond_false, oval_mv, oval_pick, oval_bin, oval_un, oval_call, oval_len, oval_eqb, oval_isnil, oval_eqagg, oval_cvt, oval_ext, oval_fld, oval_build, oval_chk, oval_faddr, oval_iaddr, oval_mkfn, oval_min, oval_max, oval_load, oval_sub, oval_new, oval_box, oval_make, oval_lit, oval_store, oval_app, oval_appz, oval_copy, oval_clear, oval_callv, ev_tmp, ev_const, ev_func, put_app, put_none, bindS_some, ex_one, seqQ_normal, seqQ_exit, seqQ_ret, blkQ_normal, blkQ_exit, blkQ_ret, retQ_normal, retQ_ret, loopQ_normal, loopQ_exit, loopQ_ret, presult, presAll, pres1, pbin_add, pbin_sub, pbin_mul, pbin_lss, pbin_leq, pbin_gtr, pbin_geq, pbin_eql, pbin_neq, pun_neg, pun_not, lenV, faddr_at, ext2_0, ext2_1, ext3_0, ext3_1, ext3_2, max_int, min_int, Value.bool.injEq, decide_eq_true_eq, decide_eq_false_iff_not, Bool.not_true, Bool.not_false, decide_true, decide_false, Bool.not_eq_true', Bool.not_eq_false', Bool.false_eq_true, false_and, and_false, Option.map_some, Nat.reduceEqDiff, if_true, if_false, List.map_cons, List.map_nil, and_true, true_and, Nat.reduceAdd, Nat.zero_add, Nat.add_zero, List.length_cons, List.length_nil, penv, List.getD_cons_zero, List.getD_cons_succ, List.getD_nil]
  by_cases hbig : (1000000 : Int) < n
  · simp only [hbig, Int.reduceNeg, Int.reduceLT, W_seq, W_reg, W_block, W_skip, W_exit, W_ret, WS_op, WS_nil, WS_guard_yes, WS_guard_no, WS_guard_un, W_cond_true, W_cond_false, oval_mv, oval_pick, oval_bin, oval_un, oval_call, oval_len, oval_eqb, oval_isnil, oval_eqagg, oval_cvt, oval_ext, oval_fld, oval_build, oval_chk, oval_faddr, oval_iaddr, oval_mkfn, oval_min, oval_max, oval_load, oval_sub, oval_new, oval_box, oval_make, oval_lit, oval_store, oval_app, oval_appz, oval_copy, oval_clear, oval_callv, ev_tmp, ev_const, ev_func, put_app, put_none, bindS_some, ex_one, seqQ_normal, seqQ_exit, seqQ_ret, blkQ_normal, blkQ_exit, blkQ_ret, retQ_normal, retQ_ret, loopQ_normal, loopQ_exit, loopQ_ret, presult, presAll, pres1, pbin_add, pbin_sub, pbin_mul, pbin_lss, pbin_leq, pbin_gtr, pbin_geq, pbin_eql, pbin_neq, pun_neg, pun_not, lenV, faddr_at, ext2_0, ext2_1, ext3_0, ext3_1, ext3_2, max_int, min_int, Value.bool.injEq, decide_eq_true_eq, decide_eq_false_iff_not, Bool.not_true, Bool.not_false, decide_true, decide_false, Bool.not_eq_true', Bool.not_eq_false', Bool.false_eq_true, false_and, and_false, Option.map_some, Nat.reduceEqDiff, if_true, if_false, List.map_cons, List.map_nil, and_true, true_and, Nat.reduceAdd, Nat.zero_add, Nat.add_zero, List.length_cons, List.length_nil]
  have hn' : n ≤ 1000000 := by omega
  have hneg : ¬ (1000000 - (n : Int)) < 0 := by omega
  obtain ⟨v1, H1, e1, hp1, h1⟩ := laws_toCustomerS_w (c := c) cs false hA (Nat.le_refl _) hn'
  obtain ⟨b1, hb1, rfl, hR1⟩ := h1.resolve_left (fun h => by cases h.1)
  obtain ⟨_, H2, e2, hp2, rfl⟩ := spec_WorkLeft_w (c := n + room n) cs time (handed hA.len hR1) hp1.length_le hn'
  have hp2' := hp1.trans hp2
  obtain ⟨v3, H3, e3, hp3, h3⟩ := laws_toCustomerS_w (c := c) cs false (hA.pre hp2') hp2'.length_le hn'
  obtain ⟨b3, hb3, rfl, hR3⟩ := h3.resolve_left (fun h => by cases h.1)
  have hp3' := hp2'.trans hp3
  obtain ⟨_, H4, e4, hp4, rfl⟩ := impl_WorkLeft_w (c := n + room n) cs time (handed hA.len hR3) hp3'.length_le hn'
  have hp4' := hp3'.trans hp4
  obtain ⟨v5, H5, e5, hp5, h5⟩ := laws_toCustomerS_w (c := c) cs false (hA.pre hp4') hp4'.length_le hn'
  obtain ⟨b5, hb5, rfl, hR5⟩ := h5.resolve_left (fun h => by cases h.1)
  have hp5' := hp4'.trans hp5
  obtain ⟨_, H6, e6, hp6, rfl⟩ := laws_intactCustomerS_w cs hA.len (hR3.pre (hp4.trans hp5)) hR5 hp5'.length_le hn'
  have hp6' := hp5'.trans hp6
  obtain ⟨v7, H7, e7, hp7, h7⟩ := laws_toCustomerS_w (c := c) cs true (hA.pre hp6') hp6'.length_le hn'
  have hp7' := hp6'.trans hp7
  obtain ⟨a7, c7, rfl, hA7⟩ := handed_bare hA.len h7
  obtain ⟨_, H8, e8, _, rfl⟩ := impl_WorkLeft_w (lo := H.length) (c := c7) cs time hA7 hp7'.length_le hn'
  simp only [hbig, hneg, e1, e2, e3, e4, e5, e6, e7, e8, wlV, eqbV, bne_self_eq_false, beq_self_eq_true, Bool.true_bne, Bool.bne_true, Bool.not_true, eq_self, W_seq, W_reg, W_block, W_skip, W_exit, W_ret, WS_op, WS_nil, WS_guard_yes, WS_guard_no, WS_guard_un, W_cond_true, W_cond_false, oval_mv, oval_pick, oval_bin, oval_un, oval_call, oval_len, oval_eqb, oval_isnil, oval_eqagg, oval_cvt, oval_ext, oval_fld, oval_build, oval_chk, oval_faddr, oval_iaddr, oval_mkfn, oval_min, oval_max, oval_load, oval_sub, oval_new, oval_box, oval_make, oval_lit, oval_store, oval_app, oval_appz, oval_copy, oval_clear, oval_callv, ev_tmp, ev_const, ev_func, put_app, put_none, bindS_some, ex_one, seqQ_normal, seqQ_exit, seqQ_ret, blkQ_normal, blkQ_exit, blkQ_ret, retQ_normal, retQ_ret, loopQ_normal, loopQ_exit, loopQ_ret, presult, presAll, pres1, pbin_add, pbin_sub, pbin_mul, pbin_lss, pbin_leq, pbin_gtr, pbin_geq, pbin_eql, pbin_neq, pun_neg, pun_not, lenV, faddr_at, ext2_0, ext2_1, ext3_0, ext3_1, ext3_2, max_int, min_int, Value.bool.injEq, decide_eq_true_eq, decide_eq_false_iff_not, Bool.not_true, Bool.not_false, decide_true, decide_false, Bool.not_eq_true', Bool.not_eq_false', Bool.false_eq_true, false_and, and_false, Option.map_some, Nat.reduceEqDiff, if_true, if_false, List.map_cons, List.map_nil, and_true, true_and, Nat.reduceAdd, Nat.zero_add, Nat.add_zero, List.length_cons, List.length_nil, penv, List.getD_cons_zero, List.getD_cons_succ, List.getD_nil]

end Go.PM
