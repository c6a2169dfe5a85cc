/- Contracts: a message's bytes. -/
import Derived.Test.YtmgccphapkmmeaaF2
import Derived.Test.YtmgccphapkmmeaaVSt
namespace Go.Proofs.Ytmgccphapkmmeaa
open Go.RowKit

def b6 (i : GItem) : List Int := [by8 i.key, by8 i.ver.count, by8 (i.ver.count / 2 ^ (8 : Int).toNat), by8 i.ver.writer, by8 i.value, if i.gone = true then 1 else 0]
def itemBytes (i : GItem) : List Int := b6 i ++ [by8 (sumL (b6 i))]
def msgHead (m : GMsg) : List Int := [by8 m.kind, by8 m.src, by8 m.dst]
def msgRest (m : GMsg) : List Int :=
  if m.kind = 0 then by8 m.ids.length :: m.ids.map by8
  else if m.kind = 1 then itemBytes m.item
  else if m.kind = 2 then [by8 m.key]
  else if m.kind = 3 then [by8 m.key, if m.has = true then 1 else 0] ++ (if m.has = true then itemBytes m.item else [])
  else []
def msgBytes (m : GMsg) : List Int := msgHead m ++ msgRest m
/-- (Sealed: neither Lean nor its kernel looks into it.) -/
noncomputable def mPutS (m : GMsg) : ByteArray := Classical.choose (seal_ex (if mayB m = true then bs (msgBytes m) else ByteArray.empty))
theorem mPutS_def (m : GMsg) : mPutS m = if mayB m = true then bs (msgBytes m) else ByteArray.empty := Classical.choose_spec (seal_ex _)
noncomputable def mPutE (m : GMsg) : Int := Classical.choose (seal_ex (if mayB m = true then (0 : Int) else 1300))
theorem mPutE_def (m : GMsg) : mPutE m = if mayB m = true then 0 else 1300 := Classical.choose_spec (seal_ex _)
noncomputable def oPut (m : GMsg) : Out := .ok (.tup [.str (mPutS m), .int .i64 (mPutE m)]) []
theorem inB_b6 (i : GItem) : InB (b6 i) := by
  intro x hx
  simp only [b6, List.mem_cons, List.not_mem_nil, or_false] at hx
  rcases hx with rfl | rfl | rfl | rfl | rfl | rfl
  · exact by8_in _
  · exact by8_in _
  · exact by8_in _
  · exact by8_in _
  · exact by8_in _
  · split <;> omega
theorem sumL_bd {l : List Int} (h : InB l) : 0 ≤ sumL l ∧ sumL l ≤ 255 * l.length := by
  have key : ∀ (l : List Int) (a : Int), InB l → 0 ≤ a → 0 ≤ l.foldl (· + ·) a ∧ l.foldl (· + ·) a ≤ a + 255 * l.length := by
    intro l
    induction l with
    | nil => intro a _ ha; simp; omega
    | cons x l ih =>
      intro a hl ha
      have hx := hl x (by simp)
      have := ih (a + x) (fun y hy => hl y (by simp [hy])) (by omega)
      simp only [List.foldl_cons, List.length_cons]
      omega
  have := key l 0 h (by omega)
  unfold sumL
  omega
theorem inB_take {l : List Int} (h : InB l) (i : Nat) : InB (l.take i) := fun x hx => h x (List.mem_of_mem_take hx)
theorem k_bit : Known Try.prog tau 46 (S1 dBool fun b => .ok (.int .u8 (if b = true then 1 else 0)) []) := by
  refine known1 hmix tau_ok ctx_nil (fn := Try.f46) (by kernel_rfl) [] (by kernel_rfl) _ _ fun b hfit => ⟨rfl, [], ?_⟩
  (repeat' (first | ((with_reducible refine body_intro ?_); (first | refine seq_intro (fun Kv hN hX hR => ?_) | (conv => whnf))) | with_reducible refine Stop.mk ?_ | with_reducible refine seq_intro (fun Kv hN hX hR => ?_) | (with_reducible refine hN _ ?_; clear hN hX hR; clear Kv) | (with_reducible refine hX _ _ ?_; clear hN hX hR; clear Kv) | (with_reducible refine hR _ ?_; clear hN hX hR; clear Kv) | ((conv => whnf); first | with_reducible rfl | with_reducible exact True.intro | with_reducible intro _ | with_reducible refine And.intro ?_ ?_ | (with_reducible refine hN _ ?_; clear hN hX hR; clear Kv) | (with_reducible refine hX _ _ ?_; clear hN hX hR; clear Kv) | (with_reducible refine hR _ ?_; clear hN hX hR; clear Kv) | with_reducible refine Stop.mk ?_))); all_goals (conv => whnf); all_goals (repeat (clear hN hX hR; clear Kv))
  all_goals simp_all
theorem k_letter : Known Try.prog tau 47 (S1 dInt fun x => .ok (.str (bs [by8 x])) []) := by
  refine known1 hmix tau_ok ctx_nil (fn := Try.f47) (by kernel_rfl) [] (by kernel_rfl) _ _ fun b hfit => ⟨rfl, [], ?_⟩
  (repeat' (first | ((with_reducible refine body_intro ?_); (first | refine seq_intro (fun Kv hN hX hR => ?_) | (conv => whnf))) | with_reducible refine Stop.mk ?_ | with_reducible refine seq_intro (fun Kv hN hX hR => ?_) | (with_reducible refine hN _ ?_; clear hN hX hR; clear Kv) | (with_reducible refine hX _ _ ?_; clear hN hX hR; clear Kv) | (with_reducible refine hR _ ?_; clear hN hX hR; clear Kv) | ((conv => whnf); first | with_reducible rfl | with_reducible exact True.intro | with_reducible intro _ | with_reducible refine And.intro ?_ ?_ | (with_reducible refine hN _ ?_; clear hN hX hR; clear Kv) | (with_reducible refine hX _ _ ?_; clear hN hX hR; clear Kv) | (with_reducible refine hR _ ?_; clear hN hX hR; clear Kv) | with_reducible refine Stop.mk ?_))); all_goals (conv => whnf); all_goals (repeat (clear hN hX hR; clear Kv))
  all_goals rfl
theorem k_flag : Known Try.prog tau 49 (S1 dBool fun b => .ok (.int .i64 (if b = true then 1 else 0)) []) := by
  refine known1 hmix tau_ok ctx_nil (fn := Try.f49) (by kernel_rfl) [] (by kernel_rfl) _ _ fun b hfit => ⟨rfl, [], ?_⟩
  (repeat' (first | ((with_reducible refine body_intro ?_); (first | refine seq_intro (fun Kv hN hX hR => ?_) | (conv => whnf))) | with_reducible refine Stop.mk ?_ | with_reducible refine seq_intro (fun Kv hN hX hR => ?_) | (with_reducible refine hN _ ?_; clear hN hX hR; clear Kv) | (with_reducible refine hX _ _ ?_; clear hN hX hR; clear Kv) | (with_reducible refine hR _ ?_; clear hN hX hR; clear Kv) | ((conv => whnf); first | with_reducible rfl | with_reducible exact True.intro | with_reducible intro _ | with_reducible refine And.intro ?_ ?_ | (with_reducible refine hN _ ?_; clear hN hX hR; clear Kv) | (with_reducible refine hX _ _ ?_; clear hN hX hR; clear Kv) | (with_reducible refine hR _ ?_; clear hN hX hR; clear Kv) | with_reducible refine Stop.mk ?_))); all_goals (conv => whnf); all_goals (repeat (clear hN hX hR; clear Kv))
  all_goals simp_all
theorem k_put : Known Try.prog tau 45 (S1 dItem fun i => .ok (.own 0) [.bytes (itemBytes i)]) := by
  refine known1 hmix tau_ok (ctx_cons k_bit ctx_nil) (fn := Try.f45) (by kernel_rfl) [(1, [(0, 0), (1, 1), (2, 2), (3, 0), (4, 8), (5, 16), (6, 32), (7, 0), (8, 128), (9, 256), (10, 512), (11, 1024), (12, 0), (13, 4096), (14, 8192), (15, 16384), (16, 0), (17, 65536), (18, 131072), (19, 0), (20, 524288), (21, 1048576), (22, 2394180), (23, 8388607)])] (by kernel_rfl) _ _ fun x hfit => ⟨rfl,
    [(4, invN [4, 6, 32, 33, 34, 35, 36, 37, 38, 39] (fun i => i ≤ 6) (fun i => withS [(32, .int .i64 i), (4, .int .u8 (by8 (sumL ((b6 x).take i))))]) (fun i => 6 - i))], ?_⟩
  clear hfit
  have hb := inB_b6 x
  (repeat' (first | ((with_reducible refine body_intro ?_); (first | refine seq_intro (fun Kv hN hX hR => ?_) | (conv => whnf))) | with_reducible refine Stop.mk ?_ | with_reducible refine seq_intro (fun Kv hN hX hR => ?_) | (with_reducible refine hN _ ?_; clear hN hX hR; clear Kv) | (with_reducible refine hX _ _ ?_; clear hN hX hR; clear Kv) | (with_reducible refine hR _ ?_; clear hN hX hR; clear Kv) | ((conv => whnf); first | with_reducible rfl | with_reducible exact True.intro | with_reducible intro _ | with_reducible refine And.intro ?_ ?_ | (with_reducible refine hN _ ?_; clear hN hX hR; clear Kv) | (with_reducible refine hX _ _ ?_; clear hN hX hR; clear Kv) | (with_reducible refine hR _ ?_; clear hN hX hR; clear Kv) | with_reducible refine Stop.mk ?_))); all_goals (conv => whnf); all_goals (repeat (clear hN hX hR; clear Kv))
  · exact Ob.mk (by decide)
  · exact Ob.mk (by decide)
  · refine ⟨0, by omega, ?_⟩
    (repeat' (first | ((with_reducible refine body_intro ?_); (first | refine seq_intro (fun Kv hN hX hR => ?_) | (conv => whnf))) | with_reducible refine Stop.mk ?_ | with_reducible refine seq_intro (fun Kv hN hX hR => ?_) | (with_reducible refine hN _ ?_; clear hN hX hR; clear Kv) | (with_reducible refine hX _ _ ?_; clear hN hX hR; clear Kv) | (with_reducible refine hR _ ?_; clear hN hX hR; clear Kv) | ((conv => whnf); first | with_reducible rfl | with_reducible exact True.intro | with_reducible intro _ | with_reducible refine And.intro ?_ ?_ | (with_reducible refine hN _ ?_; clear hN hX hR; clear Kv) | (with_reducible refine hX _ _ ?_; clear hN hX hR; clear Kv) | (with_reducible refine hR _ ?_; clear hN hX hR; clear Kv) | with_reducible refine Stop.mk ?_))); all_goals (conv => whnf); all_goals (repeat (clear hN hX hR; clear Kv))
    all_goals rfl
  · rename_i i hi h
    have h : (i : Int) < 6 := of_decide_eq_true h
    exact Ob.mk ⟨by omega, h⟩
  · rename_i i hi h h2
    have h : (i : Int) < 6 := of_decide_eq_true h
    refine ⟨i + 1, by omega, by show 6 - (i + 1) < 6 - i; omega, ?_⟩
    have hs := sumL_take (show i < (b6 x).length by show i < 6; omega)
    (repeat' (first | ((with_reducible refine body_intro ?_); (first | refine seq_intro (fun Kv hN hX hR => ?_) | (conv => whnf))) | with_reducible refine Stop.mk ?_ | with_reducible refine seq_intro (fun Kv hN hX hR => ?_) | (with_reducible refine hN _ ?_; clear hN hX hR; clear Kv) | (with_reducible refine hX _ _ ?_; clear hN hX hR; clear Kv) | (with_reducible refine hR _ ?_; clear hN hX hR; clear Kv) | ((conv => whnf); first | with_reducible rfl | with_reducible exact True.intro | with_reducible intro _ | with_reducible refine And.intro ?_ ?_ | (with_reducible refine hN _ ?_; clear hN hX hR; clear Kv) | (with_reducible refine hX _ _ ?_; clear hN hX hR; clear Kv) | (with_reducible refine hR _ ?_; clear hN hX hR; clear Kv) | with_reducible refine Stop.mk ?_))); all_goals (conv => whnf); all_goals (repeat (clear hN hX hR; clear Kv))
    all_goals first
      | exact wrapI (by omega) (by omega)
      | (rw [hs]; exact by8_add _ _)
      | rfl
  · exact Ob.mk (by simp [Rw.len, Rw.bts, Rw.kd, kdBytes])
  · rename_i i hi h h2
    have h : ¬ (i : Int) < 6 := of_decide_eq_false h
    obtain rfl : i = 6 := by omega
    rfl
end Go.Proofs.Ytmgccphapkmmeaa
