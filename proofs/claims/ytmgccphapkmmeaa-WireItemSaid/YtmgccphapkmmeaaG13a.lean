/- Chapter 13: the laws' functions. -/
import Derived.Test.YtmgccphapkmmeaaF13f
namespace Go.Proofs.Ytmgccphapkmmeaa
open Go.RowKit

theorem aw1_may : mayB ⟨3, 1, 2, [], 5, ⟨5, ⟨258, 9⟩, 3, false⟩, true⟩ = true := by decide
theorem aw1_put : mPutS ⟨3, 1, 2, [], 5, ⟨5, ⟨258, 9⟩, 3, false⟩, true⟩ = ⟨#[3, 1, 2, 5, 1, 5, 2, 1, 9, 3, 0, 20]⟩ := by rw [mPutS_def, if_pos aw1_may]; decide
theorem aw1_err : mPutE ⟨3, 1, 2, [], 5, ⟨5, ⟨258, 9⟩, 3, false⟩, true⟩ = 0 := by rw [mPutE_def, if_pos aw1_may]
theorem aw1_get : mGet ⟨#[3, 1, 2, 5, 1, 5, 2, 1, 9, 3, 0, 20]⟩ = (⟨3, 1, 2, [], 5, ⟨5, ⟨258, 9⟩, 3, false⟩, true⟩, 0) := by rw [← aw1_put]; exact mGet_put aw1_may
theorem aw2_may : mayB ⟨0, 1, 2, [7, 3], 0, ⟨0, ⟨0, 0⟩, 0, false⟩, false⟩ = true := by decide
theorem aw2_put : mPutS ⟨0, 1, 2, [7, 3], 0, ⟨0, ⟨0, 0⟩, 0, false⟩, false⟩ = ⟨#[0, 1, 2, 2, 7, 3]⟩ := by rw [mPutS_def, if_pos aw2_may]; decide
theorem aw2_err : mPutE ⟨0, 1, 2, [7, 3], 0, ⟨0, ⟨0, 0⟩, 0, false⟩, false⟩ = 0 := by rw [mPutE_def, if_pos aw2_may]
theorem aw3_err : mPutE ⟨0, 0, 0, [], 0, ⟨0, ⟨0, 0⟩, 0, false⟩, false⟩ = 1300 := by rw [mPutE_def, if_neg (by decide)]
theorem aw4_get : mGet ⟨#[]⟩ = (msg0, 1300) := by rw [mGet_def, if_neg (by rintro ⟨h, _⟩; exact absurd h (by decide))]
set_option maxHeartbeats 1000000 in
theorem k_awake13 : Known Try.prog tau 26 (S0 (okB true)) := by
  refine known0 hmix tau_ok (ctx_cons k_Put (ctx_cons k_Get (ctx_cons k_SameMsg (ctx_cons k_Num ctx_nil)))) (fn := Try.f26) (by kernel_rfl) [] (by kernel_rfl) _ fun hfit => ⟨rfl, [], ?_⟩
  clear hfit
  (repeat' (first | ((with_reducible refine body_intro ?_); (first | refine seq_intro (fun Kv hN hX hR => ?_) | (conv => whnf))) | with_reducible refine Stop.mk ?_ | with_reducible refine seq_intro (fun Kv hN hX hR => ?_) | (with_reducible refine hN _ ?_; clear hN hX hR; clear Kv) | (with_reducible refine hX _ _ ?_; clear hN hX hR; clear Kv) | (with_reducible refine hR _ ?_; clear hN hX hR; clear Kv) | ((conv => whnf); first | with_reducible rfl | with_reducible exact True.intro | with_reducible intro _ | with_reducible refine And.intro ?_ ?_ | (with_reducible refine hN _ ?_; clear hN hX hR; clear Kv) | (with_reducible refine hX _ _ ?_; clear hN hX hR; clear Kv) | (with_reducible refine hR _ ?_; clear hN hX hR; clear Kv) | with_reducible refine Stop.mk ?_))); all_goals (conv => whnf); all_goals (repeat (clear hN hX hR; clear Kv))
  all_goals (try simp only [aw1_put, aw1_err, aw1_get, aw2_put, aw2_err, aw3_err, aw4_get] at *)
  all_goals first
    | (refine Ob.mk ?_; decide)
    | (simp_all; done)
    | rfl
/-- Unlike messages have unlike bytes. -/
theorem put_inj {a b : GMsg} (ha : mayB a = true) (hb : mayB b = true) : (mPutS a = mPutS b) ↔ a = b := by
  constructor
  · intro h
    have h1 := mGet_put ha
    have h2 := mGet_put hb
    rw [h, h2] at h1
    exact (congrArg Prod.fst h1).symm
  · rintro rfl; rfl
theorem eta_msg (m : GMsg) : (⟨m.kind, m.src, m.dst, m.ids, m.key, ⟨m.item.key, ⟨m.item.ver.count, m.item.ver.writer⟩, m.item.value, m.item.gone⟩, m.has⟩ : GMsg) = m := rfl
set_option maxHeartbeats 1000000 in
theorem k_WireUnlike : Known Try.prog tau 8 (S2 dMsg dMsg fun a b => okB true) := by
  refine known2 hmix tau_ok (ctx_cons k_Put (ctx_cons k_SameMsg (ctx_cons k_Num (ctx_cons k_awake13 ctx_nil)))) (fn := Try.f8) (by kernel_rfl) [] (by kernel_rfl) _ _ _ fun m m' hfit => ⟨rfl, [], ?_⟩
  clear hfit
  have h3 := @put_inj m m'
  have h1 : (mPutE m = 0 ∧ mayB m = true) ∨ (mPutE m = 1300 ∧ mPutS m = ⟨#[]⟩) := by
    rcases putE_cases m with h | h
    · exact .inl ⟨h.1, h.2.1⟩
    · exact .inr ⟨h.1, h.2.2⟩
  have h2 : (mPutE m' = 0 ∧ mayB m' = true) ∨ (mPutE m' = 1300 ∧ mPutS m' = ⟨#[]⟩) := by
    rcases putE_cases m' with h | h
    · exact .inl ⟨h.1, h.2.1⟩
    · exact .inr ⟨h.1, h.2.2⟩
  (repeat' (first | ((with_reducible refine body_intro ?_); (first | refine seq_intro (fun Kv hN hX hR => ?_) | (conv => whnf))) | with_reducible refine Stop.mk ?_ | with_reducible refine seq_intro (fun Kv hN hX hR => ?_) | (with_reducible refine hN _ ?_; clear hN hX hR; clear Kv) | (with_reducible refine hX _ _ ?_; clear hN hX hR; clear Kv) | (with_reducible refine hR _ ?_; clear hN hX hR; clear Kv) | ((conv => whnf); first | with_reducible rfl | with_reducible exact True.intro | with_reducible intro _ | with_reducible refine And.intro ?_ ?_ | (with_reducible refine hN _ ?_; clear hN hX hR; clear Kv) | (with_reducible refine hX _ _ ?_; clear hN hX hR; clear Kv) | (with_reducible refine hR _ ?_; clear hN hX hR; clear Kv) | with_reducible refine Stop.mk ?_))); all_goals (conv => whnf); all_goals (repeat (clear hN hX hR; clear Kv))
  all_goals (try simp only [eta_msg, str_beq] at *)
  all_goals rcases h1 with ⟨e1, a1⟩ | ⟨e1, a1⟩ <;> rcases h2 with ⟨e2, a2⟩ | ⟨e2, a2⟩ <;> simp_all
theorem put_facts {m : GMsg} (h : mPutE m = 0) : (mPutS m).size = (if m.kind = 0 then 4 + m.ids.length else if m.kind = 1 then 10 else if m.kind = 3 then (if m.has = true then 12 else 5) else 4) ∧
    IntKind.i64.wrap (byteAt (mPutS m) (Int.toNat 0)) = m.kind ∧ IntKind.i64.wrap (byteAt (mPutS m) (Int.toNat 1)) = m.src ∧ IntKind.i64.wrap (byteAt (mPutS m) (Int.toNat 2)) = m.dst ∧ m.ids.length ≤ 16 := by
  rcases putE_cases m with h1 | h1
  · obtain ⟨_, hm, hp⟩ := h1
    obtain ⟨hs, hd, hc⟩ := mayB_cases hm
    have e1 := by8_id hs.1 hs.2
    have e2 := by8_id hd.1 hd.2
    have k0 : by8 0 = 0 := by decide
    have k1 : by8 1 = 1 := by decide
    have k2 : by8 2 = 2 := by decide
    have k3 : by8 3 = 3 := by decide
    have ek : by8 m.kind = m.kind := by rcases hc with h | h | h | h | h <;> rw [h.1] <;> decide
    rw [hp, bs_size, wrap_byte, wrap_byte, wrap_byte, bytesL_bs (inB_msgBytes m)]
    refine ⟨?_, ?_, ?_, ?_, ?_⟩
    · rcases hc with h | h | h | h | h
      · simp [msgBytes, msgHead, msgRest, h.1]; omega
      · simp [msgBytes, msgHead, msgRest, h.1, itemBytes_len]
      · simp [msgBytes, msgHead, msgRest, h.1]
      · simp [msgBytes, msgHead, msgRest, h.1, h.2.2.2.2]
      · simp [msgBytes, msgHead, msgRest, h.1, h.2.2.2.2.2, itemBytes_len]
    · exact ek
    · exact e1
    · exact e2
    · rcases hc with h | h | h | h | h
      · exact h.2.2.1
      all_goals rw [h.2.1]; decide
  · rw [h1.1] at h; simp at h
theorem put_all (m : GMsg) : (mPutE m = 0 ∧ mayB m = true ∧ (mPutS m).size = (if m.kind = 0 then 4 + m.ids.length else if m.kind = 1 then 10 else if m.kind = 3 then (if m.has = true then 12 else 5) else 4) ∧
    IntKind.i64.wrap (byteAt (mPutS m) (Int.toNat 0)) = m.kind ∧ IntKind.i64.wrap (byteAt (mPutS m) (Int.toNat 1)) = m.src ∧ IntKind.i64.wrap (byteAt (mPutS m) (Int.toNat 2)) = m.dst ∧ m.ids.length ≤ 16) ∨ (mPutE m = 1300 ∧ mayB m = false ∧ mPutS m = ⟨#[]⟩) := by
  rcases putE_cases m with h | h
  · exact .inl ⟨h.1, h.2.1, put_facts h.1⟩
  · exact .inr ⟨h.1, h.2.1, h.2.2⟩
set_option maxHeartbeats 1000000 in
set_option maxRecDepth 5000 in
theorem k_WireSizes : Known Try.prog tau 9 (S1 dMsg fun a => okB true) := by
  refine known1 hmix tau_ok (ctx_cons k_Put (ctx_cons k_refMsg (ctx_cons k_Num (ctx_cons k_awake13 ctx_nil)))) (fn := Try.f9) (by kernel_rfl) [(16, [(0, 0), (1, 1), (2, 0), (3, 6), (4, 8), (5, 16), (6, 48), (7, 80), (8, 16), (9, 272), (10, 656), (11, 1040), (12, 2064), (13, 4096), (14, 12288), (15, 20480), (16, 4096), (17, 69632), (18, 167936), (19, 266240), (20, 528384), (21, 1048576), (22, 3145728), (23, 5242880), (24, 1048576), (25, 17825792), (26, 42991616), (27, 68157440), (28, 268435455)])] (by kernel_rfl) _ _ fun m hfit => ⟨rfl, [], ?_⟩
  clear hfit
  have h1 := put_all m
  (repeat' (first | ((with_reducible refine body_intro ?_); (first | refine seq_intro (fun Kv hN hX hR => ?_) | (conv => whnf))) | with_reducible refine Stop.mk ?_ | with_reducible refine seq_intro (fun Kv hN hX hR => ?_) | (with_reducible refine hN _ ?_; clear hN hX hR; clear Kv) | (with_reducible refine hX _ _ ?_; clear hN hX hR; clear Kv) | (with_reducible refine hR _ ?_; clear hN hX hR; clear Kv) | ((conv => whnf); first | with_reducible rfl | with_reducible exact True.intro | with_reducible intro _ | with_reducible refine And.intro ?_ ?_ | (with_reducible refine hN _ ?_; clear hN hX hR; clear Kv) | (with_reducible refine hX _ _ ?_; clear hN hX hR; clear Kv) | (with_reducible refine hR _ ?_; clear hN hX hR; clear Kv) | with_reducible refine Stop.mk ?_))); all_goals (conv => whnf); all_goals (repeat (clear hN hX hR; clear Kv))
  all_goals (try simp only [eta_msg, str_beq] at *)
  all_goals rcases h1 with ⟨e1, a1, g1, g2, g3, g4, g5⟩ | ⟨e1, a1, p1⟩
  all_goals (try simp only [decide_eq_true_eq, decide_eq_false_iff_not, Bool.not_eq_false', Bool.not_eq_true', Bool.not_true, Bool.false_eq_true, reduceCtorEq] at *)
  all_goals (try (exfalso; assumption))
  all_goals (try contradiction)
  all_goals (try exact a1)
  all_goals (try (exfalso; omega))
  all_goals have e4 : IntKind.i64.wrap (4 + (m.ids.length : Int)) = 4 + (m.ids.length : Int) := wrapI (by omega) (by omega)
  all_goals (try refine Ob.mk ?_)
  all_goals (try (split at g1 <;> first | omega | (split at g1 <;> first | omega | (split at g1 <;> first | omega | (split at g1 <;> first | omega | simp_all)))))
  all_goals
    have hf : m.has = false := by assumption
    rw [if_neg (by assumption), if_neg (by assumption), if_pos (by assumption), if_neg (by rw [hf]; simp)] at g1
    omega
end Go.Proofs.Ytmgccphapkmmeaa
