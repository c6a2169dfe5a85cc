/- Contracts: a message's bytes, on: as the document's answer puts them. -/
import Derived.Test.YtmgccphapkmmeaaF13b
namespace Go.Proofs.Ytmgccphapkmmeaa
open Go.RowKit

theorem by8_if (b : Bool) : by8 (if b = true then 1 else 0) = if b = true then 1 else 0 := by split <;> decide
theorem k_putItem : Known Try.prog tau 48 (S1 dItem fun i => .ok (.str (bs (itemBytes i))) []) := by
  refine known1 hmix tau_ok (ctx_cons k_letter (ctx_cons k_flag ctx_nil)) (fn := Try.f48) (by kernel_rfl) [(1, [(0, 0), (1, 1), (2, 2), (3, 0), (4, 8), (5, 16), (6, 36), (7, 68), (8, 0), (9, 256), (10, 512), (11, 1024), (12, 2112), (13, 4224), (14, 0), (15, 16384), (16, 32768), (17, 69632), (18, 139264), (19, 0), (20, 524288), (21, 1179648), (22, 2359296), (23, 0), (24, 8388608), (25, 18874368), (26, 33554432), (27, 71303168), (28, 268435455)])] (by kernel_rfl) _ _ fun x hfit => ⟨rfl,
    [(4, invN (3 :: [4, 5, 34, 35, 36, 37, 38, 39, 40, 41, 42, 43, 44, 45]) (fun i => i ≤ 6) (fun i => withS [(5, .int .i64 i), (4, .int .i64 (sumL ((b6 x).take i))), (3, .str (bs (b6 x)))]) (fun i => 6 - i))], ?_⟩
  clear hfit
  have hb := inB_b6 x
  (repeat' (first | ((with_reducible refine body_intro ?_); (first | refine seq_intro (fun Kv hN hX hR => ?_) | (conv => whnf))) | with_reducible refine Stop.mk ?_ | with_reducible refine seq_intro (fun Kv hN hX hR => ?_) | (with_reducible refine hN _ ?_; clear hN hX hR; clear Kv) | (with_reducible refine hX _ _ ?_; clear hN hX hR; clear Kv) | (with_reducible refine hR _ ?_; clear hN hX hR; clear Kv) | ((conv => whnf); first | with_reducible rfl | with_reducible exact True.intro | with_reducible intro _ | with_reducible refine And.intro ?_ ?_ | (with_reducible refine hN _ ?_; clear hN hX hR; clear Kv) | (with_reducible refine hX _ _ ?_; clear hN hX hR; clear Kv) | (with_reducible refine hR _ ?_; clear hN hX hR; clear Kv) | with_reducible refine Stop.mk ?_))); all_goals (conv => whnf); all_goals (repeat (clear hN hX hR; clear Kv))
  all_goals first
    | exact Ob.mk (by decide)
    | (refine Ob.mk ?_
       simp [bs_app, bs_size, show (b6 x).length = 6 from rfl]
       done)
    | skip
  · refine ⟨0, by omega, ?_⟩
    (repeat' (first | ((with_reducible refine body_intro ?_); (first | refine seq_intro (fun Kv hN hX hR => ?_) | (conv => whnf))) | with_reducible refine Stop.mk ?_ | with_reducible refine seq_intro (fun Kv hN hX hR => ?_) | (with_reducible refine hN _ ?_; clear hN hX hR; clear Kv) | (with_reducible refine hX _ _ ?_; clear hN hX hR; clear Kv) | (with_reducible refine hR _ ?_; clear hN hX hR; clear Kv) | ((conv => whnf); first | with_reducible rfl | with_reducible exact True.intro | with_reducible intro _ | with_reducible refine And.intro ?_ ?_ | (with_reducible refine hN _ ?_; clear hN hX hR; clear Kv) | (with_reducible refine hX _ _ ?_; clear hN hX hR; clear Kv) | (with_reducible refine hR _ ?_; clear hN hX hR; clear Kv) | with_reducible refine Stop.mk ?_))); all_goals (conv => whnf); all_goals (repeat (clear hN hX hR; clear Kv))
    all_goals first
      | rfl
      | (simp only [bs_app, by8_if, List.cons_append, List.nil_append]; rfl)
  · rename_i i hi h
    have h : (i : Int) < ((bs (b6 x)).size : Nat) := of_decide_eq_true h
    exact Ob.mk ⟨by omega, h⟩
  · rename_i i hi h h2
    have h : (i : Int) < ((bs (b6 x)).size : Nat) := of_decide_eq_true h
    rw [bs_size] at h
    have h : (i : Int) < 6 := h
    refine ⟨i + 1, by omega, by show 6 - (i + 1) < 6 - i; omega, ?_⟩
    have hs := sumL_take (show i < (b6 x).length by show i < 6; omega)
    have h1 := sumL_bd (inB_take hb i)
    have h1' : (((b6 x).take i).length : Int) ≤ 6 := by simp; omega
    have h2 := getD_inB hb i
    have e1 : IntKind.i64.wrap (byteAt (bs (b6 x)) i) = (b6 x).getD i 0 := by rw [wrap_byte, bytesL_bs hb]
    have e2 : IntKind.i64.wrap (sumL ((b6 x).take i) + (b6 x).getD i 0) = sumL ((b6 x).take i) + (b6 x).getD i 0 := wrapI (by omega) (by omega)
    (repeat' (first | ((with_reducible refine body_intro ?_); (first | refine seq_intro (fun Kv hN hX hR => ?_) | (conv => whnf))) | with_reducible refine Stop.mk ?_ | with_reducible refine seq_intro (fun Kv hN hX hR => ?_) | (with_reducible refine hN _ ?_; clear hN hX hR; clear Kv) | (with_reducible refine hX _ _ ?_; clear hN hX hR; clear Kv) | (with_reducible refine hR _ ?_; clear hN hX hR; clear Kv) | ((conv => whnf); first | with_reducible rfl | with_reducible exact True.intro | with_reducible intro _ | with_reducible refine And.intro ?_ ?_ | (with_reducible refine hN _ ?_; clear hN hX hR; clear Kv) | (with_reducible refine hX _ _ ?_; clear hN hX hR; clear Kv) | (with_reducible refine hR _ ?_; clear hN hX hR; clear Kv) | with_reducible refine Stop.mk ?_))); all_goals (conv => whnf); all_goals (repeat (clear hN hX hR; clear Kv))
    all_goals first
      | exact wrapI (by omega) (by omega)
      | (rw [hs]
         show IntKind.i64.wrap (sumL ((b6 x).take i) + IntKind.i64.wrap (byteAt (bs (b6 x)) i)) = _
         rw [e1, e2])
      | rfl
  · rename_i i hi h h2
    have h : ¬ (i : Int) < ((bs (b6 x)).size : Nat) := of_decide_eq_false h
    rw [bs_size] at h
    have h : ¬ (i : Int) < 6 := h
    obtain rfl : i = 6 := by omega
    rw [bs_app]
    rfl
theorem k_PutMsg : Known Try.prog tau 22 (S1 dMsg oPut) := by
  refine known1 hmix tau_ok (ctx_cons k_refMsg (ctx_cons k_letter (ctx_cons k_flag (ctx_cons k_putItem ctx_nil)))) (fn := Try.f22) (by kernel_rfl) [(3, [(0, 0), (1, 1), (2, 2), (3, 0), (4, 8), (5, 20), (6, 36), (7, 0), (8, 128), (9, 288), (10, 576), (11, 2047)]), (5, [(0, 0), (1, 0), (2, 2), (3, 4), (4, 9), (5, 0), (6, 32), (7, 72), (8, 128), (9, 272), (10, 1023)])] (by kernel_rfl) _ _ fun m hfit => ⟨rfl,
    [(11, invN [4, 5, 47, 48, 49, 50, 51, 52, 53, 54, 55, 56, 57, 58, 59, 60, 61] (fun i => i ≤ m.ids.length) (fun i => withS [(5, .int .i64 i), (4, .str (bs (msgHead m ++ by8 m.ids.length :: (m.ids.take i).map by8)))]) (fun i => m.ids.length - i))], ?_⟩
  have hlen : m.ids.length * 8 ≤ 140737488355328 := hfit.1.2.2.2.1
  clear hfit
  (repeat' (first | ((with_reducible refine body_intro ?_); (first | refine seq_intro (fun Kv hN hX hR => ?_) | (conv => whnf))) | with_reducible refine Stop.mk ?_ | with_reducible refine seq_intro (fun Kv hN hX hR => ?_) | (with_reducible refine hN _ ?_; clear hN hX hR; clear Kv) | (with_reducible refine hX _ _ ?_; clear hN hX hR; clear Kv) | (with_reducible refine hR _ ?_; clear hN hX hR; clear Kv) | ((conv => whnf); first | with_reducible rfl | with_reducible exact True.intro | with_reducible intro _ | with_reducible refine And.intro ?_ ?_ | (with_reducible refine hN _ ?_; clear hN hX hR; clear Kv) | (with_reducible refine hX _ _ ?_; clear hN hX hR; clear Kv) | (with_reducible refine hR _ ?_; clear hN hX hR; clear Kv) | with_reducible refine Stop.mk ?_))); all_goals (conv => whnf); all_goals (repeat (clear hN hX hR; clear Kv))
  all_goals first
    | (have hm : (!mayB m) = true := by assumption
       have hm : mayB m = false := by simpa using hm
       simp [mPutE_def, hm]
       done)
    | (have hm : (!mayB m) = true := by assumption
       have hm : mayB m = false := by simpa using hm
       rw [mPutS_def]
       rw [if_neg (by simp [hm])]
       rfl)
    | (have hm : (!mayB m) = false := by assumption
       have hm : mayB m = true := by simpa using hm
       simp [mPutE_def, hm]
       done)
    | (refine Ob.mk ?_
       simp [bs_app, bs_size, itemBytes_len]
       done)
    | skip
  · refine ⟨0, by omega, ?_⟩
    (repeat' (first | ((with_reducible refine body_intro ?_); (first | refine seq_intro (fun Kv hN hX hR => ?_) | (conv => whnf))) | with_reducible refine Stop.mk ?_ | with_reducible refine seq_intro (fun Kv hN hX hR => ?_) | (with_reducible refine hN _ ?_; clear hN hX hR; clear Kv) | (with_reducible refine hX _ _ ?_; clear hN hX hR; clear Kv) | (with_reducible refine hR _ ?_; clear hN hX hR; clear Kv) | ((conv => whnf); first | with_reducible rfl | with_reducible exact True.intro | with_reducible intro _ | with_reducible refine And.intro ?_ ?_ | (with_reducible refine hN _ ?_; clear hN hX hR; clear Kv) | (with_reducible refine hX _ _ ?_; clear hN hX hR; clear Kv) | (with_reducible refine hR _ ?_; clear hN hX hR; clear Kv) | with_reducible refine Stop.mk ?_))); all_goals (conv => whnf); all_goals (repeat (clear hN hX hR; clear Kv))
    all_goals first
      | rfl
      | (simp only [bs_app, List.cons_append, List.nil_append]; rfl)
  · rename_i i hi h
    have h : (i : Int) < m.ids.length := of_decide_eq_true h
    exact Ob.mk ⟨by omega, h⟩
  · rename_i i hi h h2
    have h : (i : Int) < m.ids.length := of_decide_eq_true h
    refine Ob.mk ?_
    simp [bs_size, msgHead]
    omega
  · rename_i i hi h h2 h3
    have h : (i : Int) < m.ids.length := of_decide_eq_true h
    have hi2 : i < m.ids.length := by omega
    refine ⟨i + 1, hi2, by show m.ids.length - (i + 1) < m.ids.length - i; omega, ?_⟩
    have hs := map_take_succ hi2
    (repeat' (first | ((with_reducible refine body_intro ?_); (first | refine seq_intro (fun Kv hN hX hR => ?_) | (conv => whnf))) | with_reducible refine Stop.mk ?_ | with_reducible refine seq_intro (fun Kv hN hX hR => ?_) | (with_reducible refine hN _ ?_; clear hN hX hR; clear Kv) | (with_reducible refine hX _ _ ?_; clear hN hX hR; clear Kv) | (with_reducible refine hR _ ?_; clear hN hX hR; clear Kv) | ((conv => whnf); first | with_reducible rfl | with_reducible exact True.intro | with_reducible intro _ | with_reducible refine And.intro ?_ ?_ | (with_reducible refine hN _ ?_; clear hN hX hR; clear Kv) | (with_reducible refine hX _ _ ?_; clear hN hX hR; clear Kv) | (with_reducible refine hR _ ?_; clear hN hX hR; clear Kv) | with_reducible refine Stop.mk ?_))); all_goals (conv => whnf); all_goals (repeat (clear hN hX hR; clear Kv))
    all_goals first
      | exact wrapI (by omega) (by omega)
      | (rw [hs, bs_app]; exact congrArg bs (by simp))
      | rfl
  · rename_i hk _ i hi h
    have hm : (!mayB m) = false := by assumption
    have hm : mayB m = true := by simpa using hm
    have h : ¬ (i : Int) < m.ids.length := of_decide_eq_false h
    obtain rfl : i = m.ids.length := by omega
    have hk : m.kind = 0 := of_decide_eq_true (by assumption)
    rw [mPutS_def]
    rw [if_pos hm, List.take_length]
    unfold msgBytes msgRest
    rw [if_pos hk]
  all_goals
    have hm : (!mayB m) = false := by assumption
    have hm : mayB m = true := by simpa using hm
    rw [mPutS_def]
    rw [if_pos hm]
    have hc := (mayB_cases hm).2.2
    simp only [decide_eq_true_eq, decide_eq_false_iff_not] at *
  · simp_all [bs_app, msgBytes, msgHead, msgRest]
  · simp_all [bs_app, msgBytes, msgHead, msgRest]
  all_goals
    have hk : m.kind = 3 := by
      rcases hc with h | h | h | h | h <;> first | exact h.1 | (exfalso; simp_all; done)
    clear hc
    have e : msgBytes m = by8 m.kind :: by8 m.src :: by8 m.dst :: by8 m.key :: (if m.has = true then 1 else 0) :: (if m.has = true then itemBytes m.item else []) := by simp [msgBytes, msgHead, msgRest, hk]
    rw [e]
  · have hh : m.has = true := by assumption
    rw [if_pos hh, if_pos hh]
    simp only [bs_app, List.cons_append, List.nil_append]
    exact congrArg bs (by rw [show by8 1 = 1 by decide])
  · have hh : m.has = false := by assumption
    have hh : ¬ m.has = true := by rw [hh]; simp
    rw [if_neg hh, if_neg hh]
    simp only [bs_app, List.cons_append, List.nil_append]
    exact congrArg bs (by rw [show by8 0 = 0 by decide])
end Go.Proofs.Ytmgccphapkmmeaa
