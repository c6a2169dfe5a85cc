/- Chapter 12: the laws' functions, on. -/
import Derived.Test.YtmgccphapkmmeaaG12
import Derived.Test.YtmgccphapkmmeaaVAr
namespace Go.Proofs.Ytmgccphapkmmeaa
open Go.RowKit

theorem mayB_eq (kind src dst : Int) (ids : List Int) (key : Int) (item : GItem) (has : Bool) : mayB ⟨kind, src, dst, ids, key, item, has⟩ = (placeB src && (placeB dst && (!decide (src = dst) && bodyB ⟨kind, 0, 0, ids, key, item, has⟩))) := rfl
theorem placeB_255 (x : Int) : placeB (bits .and .i64 x 255) = true := by
  rw [and255]
  simp [placeB]
  omega
theorem decide_swap (a b : Int) : decide (a = b) = decide (b = a) := by
  by_cases h : a = b
  · simp [h]
  · rw [decide_eq_false h, decide_eq_false (fun e => h e.symm)]
theorem mayB_turn (kind src dst : Int) (ids : List Int) (key : Int) (item : GItem) (has : Bool) : mayB ⟨kind, dst, src, ids, key, item, has⟩ = mayB ⟨kind, src, dst, ids, key, item, has⟩ := by
  rw [mayB_eq, mayB_eq, decide_swap dst src]
  cases placeB src <;> cases placeB dst <;> rfl
theorem mayB_ends (kind src dst a b : Int) (ids : List Int) (key : Int) (item : GItem) (has : Bool) (h : mayB ⟨kind, src, dst, ids, key, item, has⟩ = true) (ha : placeB a = true) (hb : placeB b = true) : mayB ⟨kind, a, b, ids, key, item, has⟩ = !decide (a = b) := by
  rw [mayB_eq] at h
  simp only [Bool.and_eq_true] at h
  rw [mayB_eq, ha, hb, h.2.2.2]
  simp
theorem k_MsgEnds : Known Try.prog tau 5 (S3 dMsg dInt dInt fun m a b => okB true) := by
  refine known3 hmix tau_ok (ctx_cons k_CopyMsg (ctx_cons k_MsgMay (ctx_cons k_Num (ctx_cons k_awake12 ctx_nil)))) (fn := Try.f5) (by kernel_rfl) [(3, [(0, 0), (1, 1), (2, 0), (3, 6), (4, 0), (5, 0), (6, 59), (7, 127)]), (9, [(0, 0), (1, 0), (2, 2), (3, 5), (4, 12), (5, 16), (6, 48), (7, 80), (8, 128), (9, 384), (10, 128), (11, 1152), (12, 128), (13, 4224), (14, 10368), (15, 17024), (16, 32912), (17, 65552), (18, 131584), (19, 262144), (20, 786432), (21, 1310720), (22, 4194303)])] (by kernel_rfl) _ _ _ _ fun m x y hfit => ⟨rfl, [], ?_⟩
  clear hfit
  obtain ⟨kind, src, dst, ids, key, ⟨ik, ⟨ic, iw⟩, iv, ig⟩, has⟩ := m
  have h1 := mayB_turn kind src dst ids key ⟨ik, ⟨ic, iw⟩, iv, ig⟩ has
  have h2 := fun h => mayB_ends kind src dst (bits .and .i64 x 255) (bits .and .i64 y 255) ids key ⟨ik, ⟨ic, iw⟩, iv, ig⟩ has h (placeB_255 x) (placeB_255 y)
  (repeat' (first | ((with_reducible refine body_intro ?_); (first | refine seq_intro (fun Kv hN hX hR => ?_) | (conv => whnf))) | with_reducible refine Stop.mk ?_ | with_reducible refine seq_intro (fun Kv hN hX hR => ?_) | (with_reducible refine hN _ ?_; clear hN hX hR; clear Kv) | (with_reducible refine hX _ _ ?_; clear hN hX hR; clear Kv) | (with_reducible refine hR _ ?_; clear hN hX hR; clear Kv) | ((conv => whnf); first | with_reducible rfl | with_reducible exact True.intro | with_reducible intro _ | with_reducible refine And.intro ?_ ?_ | (with_reducible refine hN _ ?_; clear hN hX hR; clear Kv) | (with_reducible refine hX _ _ ?_; clear hN hX hR; clear Kv) | (with_reducible refine hR _ ?_; clear hN hX hR; clear Kv) | with_reducible refine Stop.mk ?_))); all_goals (conv => whnf); all_goals (repeat (clear hN hX hR; clear Kv))
  all_goals (try dsimp only at *)
  all_goals simp_all
end Go.Proofs.Ytmgccphapkmmeaa
