/- Contracts: a message's bytes, on. -/
import Derived.Test.YtmgccphapkmmeaaP13
namespace Go.Proofs.Ytmgccphapkmmeaa
open Go.RowKit

theorem map_take_succ {l : List Int} {i : Nat} (h : i < l.length) : (l.take (i + 1)).map by8 = (l.take i).map by8 ++ [by8 (l.getD i 0)] := by
  have : l.getD i 0 = l[i] := by simp [List.getD_eq_getElem?_getD, h]
  rw [List.take_succ_eq_append_getElem h, List.map_append, this]
  rfl
theorem k_Put : Known Try.prog tau 21 (S1 dMsg oPut) := by
  refine known1 hmix tau_ok (ctx_cons k_MsgMay (ctx_cons k_bit (ctx_cons k_put ctx_nil))) (fn := Try.f21) (by kernel_rfl) [(17, [(0, 0), (1, 0), (2, 2), (3, 4), (4, 0), (5, 16), (6, 32), (7, 72), (8, 193), (9, 511)])] (by kernel_rfl) _ _ fun m hfit => ⟨rfl,
    [(8, invN (19 :: 30 :: [4, 6, 34, 35, 36, 37, 38, 39, 40, 41, 42, 43]) (fun i => i ≤ m.ids.length) (fun i s => withS [(34, .int .i64 i), (4, .own 19)] (withR [(19, .own (.bytes (msgHead m ++ by8 m.ids.length :: (m.ids.take i).map by8)))] s)) (fun i => m.ids.length - i))], ?_⟩
  have hlen : m.ids.length * 8 ≤ 140737488355328 := hfit.1.2.2.2.1
  clear hfit
  (repeat' (first | ((with_reducible refine body_intro ?_); (first | refine seq_intro (fun Kv hN hX hR => ?_) | (conv => whnf))) | with_reducible refine Stop.mk ?_ | with_reducible refine seq_intro (fun Kv hN hX hR => ?_) | (with_reducible refine hN _ ?_; clear hN hX hR; clear Kv) | (with_reducible refine hX _ _ ?_; clear hN hX hR; clear Kv) | (with_reducible refine hR _ ?_; clear hN hX hR; clear Kv) | ((conv => whnf); first | with_reducible rfl | with_reducible exact True.intro | with_reducible intro _ | with_reducible refine And.intro ?_ ?_ | (with_reducible refine hN _ ?_; clear hN hX hR; clear Kv) | (with_reducible refine hX _ _ ?_; clear hN hX hR; clear Kv) | (with_reducible refine hR _ ?_; clear hN hX hR; clear Kv) | with_reducible refine Stop.mk ?_))); all_goals (conv => whnf); all_goals (repeat (clear hN hX hR; clear Kv))
  all_goals first
    | (have hm : (!mayB m) = true := by assumption
       have hm : mayB m = false := by simpa using hm
       simp [mPutE_def, hm]
       done)
    | (have hm : (!mayB m) = true := by assumption
       have hm : mayB m = false := by simpa using hm
       rw [mPutS_def]
       rw [if_neg (by simp [hm])]
       rfl)
    | (have hm : (!mayB m) = false := by assumption
       have hm : mayB m = true := by simpa using hm
       simp [mPutE_def, hm]
       done)
    | (refine Ob.mk ?_
       simp [Rw.len, Rw.bts, Rw.kd, kdBytes, itemBytes_len]
       done)
    | (have hm : (!mayB m) = false := by assumption
       have hm : mayB m = true := by simpa using hm
       simp_all [mPutS_def, bs, msgBytes, msgHead, msgRest, by8]
       done)
    | skip
  · refine ⟨0, by omega, ?_⟩
    (repeat' (first | ((with_reducible refine body_intro ?_); (first | refine seq_intro (fun Kv hN hX hR => ?_) | (conv => whnf))) | with_reducible refine Stop.mk ?_ | with_reducible refine seq_intro (fun Kv hN hX hR => ?_) | (with_reducible refine hN _ ?_; clear hN hX hR; clear Kv) | (with_reducible refine hX _ _ ?_; clear hN hX hR; clear Kv) | (with_reducible refine hR _ ?_; clear hN hX hR; clear Kv) | ((conv => whnf); first | with_reducible rfl | with_reducible exact True.intro | with_reducible intro _ | with_reducible refine And.intro ?_ ?_ | (with_reducible refine hN _ ?_; clear hN hX hR; clear Kv) | (with_reducible refine hX _ _ ?_; clear hN hX hR; clear Kv) | (with_reducible refine hR _ ?_; clear hN hX hR; clear Kv) | with_reducible refine Stop.mk ?_))); all_goals (conv => whnf); all_goals (repeat (clear hN hX hR; clear Kv))
    all_goals rfl
  · rename_i i hi h
    have h : (i : Int) < m.ids.length := of_decide_eq_true h
    exact Ob.mk ⟨by omega, h⟩
  · rename_i i hi h h2
    have h : (i : Int) < m.ids.length := of_decide_eq_true h
    refine Ob.mk ?_
    simp [Rw.len, Rw.bts, Rw.kd, kdBytes, msgHead]
    try omega
  · rename_i i hi h h2 h3
    have h : (i : Int) < m.ids.length := of_decide_eq_true h
    have hi2 : i < m.ids.length := by omega
    refine ⟨i + 1, hi2, by show m.ids.length - (i + 1) < m.ids.length - i; omega, ?_⟩
    have hs := map_take_succ hi2
    (repeat' (first | ((with_reducible refine body_intro ?_); (first | refine seq_intro (fun Kv hN hX hR => ?_) | (conv => whnf))) | with_reducible refine Stop.mk ?_ | with_reducible refine seq_intro (fun Kv hN hX hR => ?_) | (with_reducible refine hN _ ?_; clear hN hX hR; clear Kv) | (with_reducible refine hX _ _ ?_; clear hN hX hR; clear Kv) | (with_reducible refine hR _ ?_; clear hN hX hR; clear Kv) | ((conv => whnf); first | with_reducible rfl | with_reducible exact True.intro | with_reducible intro _ | with_reducible refine And.intro ?_ ?_ | (with_reducible refine hN _ ?_; clear hN hX hR; clear Kv) | (with_reducible refine hX _ _ ?_; clear hN hX hR; clear Kv) | (with_reducible refine hR _ ?_; clear hN hX hR; clear Kv) | with_reducible refine Stop.mk ?_))); all_goals (conv => whnf); all_goals (repeat (clear hN hX hR; clear Kv))
    all_goals first
      | exact wrapI (by omega) (by omega)
      | (rw [hs]; exact congrArg Rw.bytes (by simp [by8]))
      | rfl
  · rename_i h1 hk _ i hi h
    have hm : mayB m = true := by
      have h1 : (!mayB m) = false := h1
      simpa using h1
    have h : ¬ (i : Int) < m.ids.length := of_decide_eq_false h
    obtain rfl : i = m.ids.length := by omega
    have hk : m.kind = 0 := of_decide_eq_true hk
    rw [mPutS_def]
    rw [if_pos hm, List.take_length]
    unfold msgBytes msgRest
    rw [if_pos hk]
    rfl
end Go.Proofs.Ytmgccphapkmmeaa
