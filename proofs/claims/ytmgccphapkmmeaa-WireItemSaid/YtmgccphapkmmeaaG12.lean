/- Chapter 12: the laws' functions. -/
import Derived.Test.YtmgccphapkmmeaaF2
namespace Go.Proofs.Ytmgccphapkmmeaa
open Go.RowKit

theorem k_awake12 : Known Try.prog tau 20 (S0 (okB true)) := by
  refine known0 hmix tau_ok (ctx_cons k_MsgMay ctx_nil) (fn := Try.f20) (by kernel_rfl) [] (by kernel_rfl) _ fun hfit => ⟨rfl, [], ?_⟩
  (repeat' (first | ((with_reducible refine body_intro ?_); (first | refine seq_intro (fun Kv hN hX hR => ?_) | (conv => whnf))) | with_reducible refine Stop.mk ?_ | with_reducible refine seq_intro (fun Kv hN hX hR => ?_) | (with_reducible refine hN _ ?_; clear hN hX hR; clear Kv) | (with_reducible refine hX _ _ ?_; clear hN hX hR; clear Kv) | (with_reducible refine hR _ ?_; clear hN hX hR; clear Kv) | ((conv => whnf); first | with_reducible rfl | with_reducible exact True.intro | with_reducible intro _ | with_reducible refine And.intro ?_ ?_ | (with_reducible refine hN _ ?_; clear hN hX hR; clear Kv) | (with_reducible refine hX _ _ ?_; clear hN hX hR; clear Kv) | (with_reducible refine hR _ ?_; clear hN hX hR; clear Kv) | with_reducible refine Stop.mk ?_))); all_goals (conv => whnf); all_goals (repeat (clear hN hX hR; clear Kv))
  all_goals simp_all [mayB, bodyB, noneB, item0B, itemB, verB, placeB]
theorem k_Msgs : Known Try.prog tau 3 (S1 dMsg fun m => okB true) := by
  refine known1 hmix tau_ok (ctx_cons k_CopyMsg (ctx_cons k_MsgMay (ctx_cons k_refMsg (ctx_cons k_SameMsg (ctx_cons k_Num (ctx_cons k_awake12 ctx_nil)))))) (fn := Try.f3) (by kernel_rfl)
    [(2, [(0, 0), (1, 1), (2, 0), (3, 6), (4, 10), (5, 24), (6, 32), (7, 32), (8, 224), (9, 288), (10, 768), (11, 1024), (12, 3072), (13, 5120), (14, 10240), (15, 16384), (16, 49152), (17, 131071)])] (by kernel_rfl) _ _ fun m hfit => ⟨rfl, [], ?_⟩
  (repeat' (first | ((with_reducible refine body_intro ?_); (first | refine seq_intro (fun Kv hN hX hR => ?_) | (conv => whnf))) | with_reducible refine Stop.mk ?_ | with_reducible refine seq_intro (fun Kv hN hX hR => ?_) | (with_reducible refine hN _ ?_; clear hN hX hR; clear Kv) | (with_reducible refine hX _ _ ?_; clear hN hX hR; clear Kv) | (with_reducible refine hR _ ?_; clear hN hX hR; clear Kv) | ((conv => whnf); first | with_reducible rfl | with_reducible exact True.intro | with_reducible intro _ | with_reducible refine And.intro ?_ ?_ | (with_reducible refine hN _ ?_; clear hN hX hR; clear Kv) | (with_reducible refine hX _ _ ?_; clear hN hX hR; clear Kv) | (with_reducible refine hR _ ?_; clear hN hX hR; clear Kv) | with_reducible refine Stop.mk ?_))); all_goals (conv => whnf); all_goals (repeat (clear hN hX hR; clear Kv))
  all_goals simp_all
end Go.Proofs.Ytmgccphapkmmeaa
