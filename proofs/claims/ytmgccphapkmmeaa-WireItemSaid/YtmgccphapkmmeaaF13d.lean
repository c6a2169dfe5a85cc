/- Contracts: a message out of its bytes. -/
import Derived.Test.YtmgccphapkmmeaaF13c
namespace Go.Proofs.Ytmgccphapkmmeaa
open Go.RowKit

theorem cnt_or (s : ByteArray) : bits .or .i64 (IntKind.i64.wrap (byteAt s 1)) (IntKind.i64.wrap (IntKind.i64.wrap (byteAt s 2) * 2 ^ (8 : Int).toNat)) = (bytesL s).getD 1 0 + 256 * (bytesL s).getD 2 0 := by
  have h1 := getD_inB (inB_bytesL s) 1
  have h2 := getD_inB (inB_bytesL s) 2
  have e : (2 : Int) ^ (8 : Int).toNat = 256 := by decide
  rw [wrap_byte, wrap_byte, e, wrapI (by omega) (by omega)]
  exact or_shl h1.1 h1.2 h2.1 h2.2
theorem cnt_mul (s : ByteArray) : IntKind.i64.wrap (IntKind.i64.wrap (byteAt s 1) + IntKind.i64.wrap (256 * IntKind.i64.wrap (byteAt s 2))) = (bytesL s).getD 1 0 + 256 * (bytesL s).getD 2 0 := by
  have h1 := getD_inB (inB_bytesL s) 1
  have h2 := getD_inB (inB_bytesL s) 2
  rw [wrap_byte, wrap_byte, wrapI (n := 256 * _) (by omega) (by omega)]
  exact wrapI (by omega) (by omega)
theorem k_get : Known Try.prog tau 63 (S1 dStr fun s => .ok (dItem.e (getItemL (bytesL s))) []) := by
  refine known1 hmix tau_ok ctx_nil (fn := Try.f63) (by kernel_rfl) [(3, [(0, 0), (1, 1), (2, 2), (3, 0), (4, 8), (5, 16), (6, 32), (7, 68), (8, 0), (9, 256), (10, 512), (11, 1152), (12, 0), (13, 8191)]), (4, [(0, 0), (1, 1), (2, 2), (3, 0), (4, 0), (5, 16), (6, 32), (7, 0), (8, 128), (9, 256), (10, 588), (11, 2047)])] (by kernel_rfl) _ _ fun s hfit => ⟨rfl, [], ?_⟩
  clear hfit
  (repeat' (first | ((with_reducible refine body_intro ?_); (first | refine seq_intro (fun Kv hN hX hR => ?_) | (conv => whnf))) | with_reducible refine Stop.mk ?_ | with_reducible refine seq_intro (fun Kv hN hX hR => ?_) | (with_reducible refine hN _ ?_; clear hN hX hR; clear Kv) | (with_reducible refine hX _ _ ?_; clear hN hX hR; clear Kv) | (with_reducible refine hR _ ?_; clear hN hX hR; clear Kv) | ((conv => whnf); first | with_reducible rfl | with_reducible exact True.intro | with_reducible intro _ | with_reducible refine And.intro ?_ ?_ | (with_reducible refine hN _ ?_; clear hN hX hR; clear Kv) | (with_reducible refine hX _ _ ?_; clear hN hX hR; clear Kv) | (with_reducible refine hR _ ?_; clear hN hX hR; clear Kv) | with_reducible refine Stop.mk ?_))); all_goals (conv => whnf); all_goals (repeat (clear hN hX hR; clear Kv))
  all_goals first
    | (have h : (!decide ((s.size : Int) = 7)) = true := by assumption
       have h : ¬ (bytesL s).length = 7 := by rw [bytesL_len]; simp at h; omega
       unfold getItemL
       rw [if_neg h]
       rfl)
    | exact Ob.mk (by decide)
    | (have h : (!decide ((s.size : Int) = 7)) = false := by assumption
       have h : (bytesL s).length = 7 := by rw [bytesL_len]; simp at h; omega
       rw [bytesL_len] at h
       refine Ob.mk ?_
       omega)
    | (have h : (!decide ((s.size : Int) = 7)) = false := by assumption
       have h : (bytesL s).length = 7 := by rw [bytesL_len]; simp at h; omega
       unfold getItemL
       rw [if_pos h]
       first
         | exact wrap_byte s _
         | exact cnt_or s
         | exact congrArg (fun n => decide (n = 1)) (byteAt_bytesL s 5))
def getItem6 (s : ByteArray) : GItem := if 6 ≤ s.size then item7 (bytesL s) else item0
theorem k_getItem : Known Try.prog tau 51 (S1 dStr fun s => .ob (6 ≤ s.size) (dItem.e (getItem6 s)) []) := by
  refine known1 hmix tau_ok ctx_nil (fn := Try.f51) (by kernel_rfl) [(1, [(0, 0), (1, 1), (2, 2), (3, 0), (4, 8), (5, 16), (6, 0), (7, 64), (8, 128), (9, 256), (10, 544), (11, 0), (12, 2048), (13, 4096), (14, 9216), (15, 0), (16, 32768), (17, 65536), (18, 0), (19, 262144), (20, 524288), (21, 1196036), (22, 4194303)])] (by kernel_rfl) _ _ fun s hfit hs => ⟨rfl, [], ?_⟩
  clear hfit
  (repeat' (first | ((with_reducible refine body_intro ?_); (first | refine seq_intro (fun Kv hN hX hR => ?_) | (conv => whnf))) | with_reducible refine Stop.mk ?_ | with_reducible refine seq_intro (fun Kv hN hX hR => ?_) | (with_reducible refine hN _ ?_; clear hN hX hR; clear Kv) | (with_reducible refine hX _ _ ?_; clear hN hX hR; clear Kv) | (with_reducible refine hR _ ?_; clear hN hX hR; clear Kv) | ((conv => whnf); first | with_reducible rfl | with_reducible exact True.intro | with_reducible intro _ | with_reducible refine And.intro ?_ ?_ | (with_reducible refine hN _ ?_; clear hN hX hR; clear Kv) | (with_reducible refine hX _ _ ?_; clear hN hX hR; clear Kv) | (with_reducible refine hR _ ?_; clear hN hX hR; clear Kv) | with_reducible refine Stop.mk ?_))); all_goals (conv => whnf); all_goals (repeat (clear hN hX hR; clear Kv))
  all_goals first
    | (refine Ob.mk ?_
       omega)
    | (unfold getItem6
       rw [if_pos hs]
       first
         | exact wrap_byte s _
         | exact cnt_mul s
         | exact congrArg (fun n => decide (n = 1)) (byteAt_bytesL s 5))
def sp_get : Spec := S1 dStr fun s => .ok (dItem.e (getItemL (bytesL s))) []
end Go.Proofs.Ytmgccphapkmmeaa
