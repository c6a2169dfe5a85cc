/- A part of the proof of QueueRow: F14c, G14a, G14b. -/
import Derived.Test.YtmgccphapkmmeaaMLQueueRow2
/- Contracts: queues: add, take. -/
namespace Go.Proofs.Ytmgccphapkmmeaa
open Go.RowKit

def msgZ : GMsg := ⟨0, 0, 0, [], 0, ⟨0, ⟨0, 0⟩, 0, false⟩, false⟩
noncomputable def addQ (ms : List GMsg) (m : GMsg) : List GMsg × Int := Classical.choose (seal_ex (if queueB ms = true ∧ mayB m = true then (if ms.length = 512 then ([], (1401 : Int)) else (ms ++ [m], 0)) else ([], 1400)))
theorem addQ_def (ms : List GMsg) (m : GMsg) : addQ ms m = if queueB ms = true ∧ mayB m = true then (if ms.length = 512 then ([], 1401) else (ms ++ [m], 0)) else ([], 1400) := Classical.choose_spec (seal_ex _)
noncomputable def takeQ (ms : List GMsg) (p : Int) : GMsg × List GMsg × Int := Classical.choose (seal_ex (if queueB ms = true ∧ 0 ≤ p ∧ p < ms.length then (ms.getD p.toNat default, ms.take p.toNat ++ ms.drop (p.toNat + 1), (0 : Int)) else (msgZ, [], 1400)))
theorem takeQ_def (ms : List GMsg) (p : Int) : takeQ ms p = if queueB ms = true ∧ 0 ≤ p ∧ p < ms.length then (ms.getD p.toNat default, ms.take p.toNat ++ ms.drop (p.toNat + 1), 0) else (msgZ, [], 1400) := Classical.choose_spec (seal_ex _)
/-- A message that is new. -/
def mNew (m : GMsg) : List SV := [.int .i64 m.kind, .int .i64 m.src, .int .i64 m.dst, .row .new (.ints m.ids), .int .i64 m.key, .int .i64 m.item.key, .int .i64 m.item.ver.count, .int .i64 m.item.ver.writer, .int .i64 m.item.value, .bool m.item.gone, .bool m.has]
noncomputable def oAdd (ms : List GMsg) (m : GMsg) : Out := .ok (.tup [.own 0, .int .i64 (addQ ms m).2]) [.msgs (addQ ms m).1]
noncomputable def oTake (ms : List GMsg) (p : Int) : Out := .ok (.tup [.agg (mNew (takeQ ms p).1), .own 0, .int .i64 (takeQ ms p).2.2]) [.msgs (takeQ ms p).2.1]
theorem addQ_no {ms : List GMsg} {m : GMsg} (h : queueB ms = false ∨ mayB m = false) : addQ ms m = ([], 1400) := by
  rw [addQ_def, if_neg]
  rintro ⟨h1, h2⟩
  rcases h with h | h <;> simp_all
theorem addQ_full {ms : List GMsg} {m : GMsg} (h1 : queueB ms = true) (h2 : mayB m = true) (h : decide ((ms.length : Int) = 512) = true) : addQ ms m = ([], 1401) := by
  rw [addQ_def, if_pos ⟨h1, h2⟩, if_pos (by have := of_decide_eq_true h; omega)]
theorem addQ_yes {ms : List GMsg} {m : GMsg} (h1 : queueB ms = true) (h2 : mayB m = true) (h : decide ((ms.length : Int) = 512) = false) : addQ ms m = (ms ++ [m], 0) := by
  rw [addQ_def, if_pos ⟨h1, h2⟩, if_neg (by have := of_decide_eq_false h; omega)]
theorem queueB_len {ms : List GMsg} (h : queueB ms = true) : ms.length ≤ 512 := by
  simp only [queueB, Bool.and_eq_true, decide_eq_true_eq] at h
  omega
theorem takeQ_no {ms : List GMsg} {p : Int} (h : queueB ms = false ∨ decide (p < 0) = true ∨ decide ((ms.length : Int) ≤ p) = true) : takeQ ms p = (msgZ, [], 1400) := by
  rw [takeQ_def, if_neg]
  rintro ⟨h1, h2, h3⟩
  simp only [decide_eq_true_eq] at h
  rcases h with h | h | h
  · rw [h1] at h; simp at h
  · omega
  · omega
theorem takeQ_yes {ms : List GMsg} {p : Int} (h1 : queueB ms = true) (h2 : decide (p < 0) = false) (h3 : decide ((ms.length : Int) ≤ p) = false) : takeQ ms p = (ms.getD p.toNat default, ms.take p.toNat ++ ms.drop (p.toNat + 1), 0) := by
  simp only [decide_eq_false_iff_not] at h2 h3
  rw [takeQ_def, if_pos ⟨h1, by omega, by omega⟩]
theorem k_Add : Known Try.prog tau 28 (S2 dMsgs dMsg oAdd) := by
  refine known2 hmix tau_ok (ctx_cons k_qMay (ctx_cons k_MsgMay (ctx_cons k_qCopy ctx_nil))) (fn := Try.f28) (by kernel_rfl) [(5, [(0, 0), (1, 1), (2, 0), (3, 4), (4, 10), (5, 18), (6, 63), (7, 127)])] (by kernel_rfl) _ _ _ fun xs m hfit => ⟨rfl, [], ?_⟩
  clear hfit
  (repeat' (first | ((with_reducible refine body_intro ?_); (first | ((with_reducible refine seq_intro ?_ (fun Kv hN hX hR => ?_)); (next => exact rfl)) | ((with_reducible refine join_intro ?_ (fun Kv hN hX hR => ?_) ?_); (next => exact rfl)) | (conv => whnf))) | with_reducible refine body_stop (fun Kv hN hX hR => ?_) | with_reducible refine Stop.mk ?_ | with_reducible refine DrawJ.each ?_ | with_reducible exact SubJ.self _ | with_reducible refine SubJ.of ?_ | with_reducible refine fill2_step (fun Kf hF => ?_) | with_reducible refine fill2_nil ?_ | with_reducible refine node2_step (fun Kg hG => ?_) | (with_reducible refine hF _ _ ?_; clear hF; clear Kf) | (with_reducible refine hG _ _ _ _ ?_; clear hG; clear Kg) | ((with_reducible refine seq_intro ?_ (fun Kv hN hX hR => ?_)); (next => exact rfl)) | ((with_reducible refine join_intro ?_ (fun Kv hN hX hR => ?_) ?_); (next => exact rfl)) | (with_reducible refine hN _ ?_; (try (clear hG; clear Kg)); clear hN hX hR; clear Kv) | (with_reducible refine hX _ _ ?_; (try (clear hG; clear Kg)); clear hN hX hR; clear Kv) | (with_reducible refine hR _ ?_; (try (clear hG; clear Kg)); clear hN hX hR; clear Kv) | ((conv => whnf); first | with_reducible rfl | with_reducible exact True.intro | with_reducible intro _ | with_reducible refine And.intro ?_ ?_ | (with_reducible refine hN _ ?_; (try (clear hG; clear Kg)); clear hN hX hR; clear Kv) | (with_reducible refine hX _ _ ?_; (try (clear hG; clear Kg)); clear hN hX hR; clear Kv) | (with_reducible refine hR _ ?_; (try (clear hG; clear Kg)); clear hN hX hR; clear Kv) | with_reducible refine body_stop (fun Kv hN hX hR => ?_) | with_reducible refine Stop.mk ?_ | with_reducible refine DrawJ.each ?_ | with_reducible exact SubJ.self _ | with_reducible refine SubJ.of ?_ | with_reducible refine fill2_step (fun Kf hF => ?_) | with_reducible refine fill2_nil ?_ | with_reducible refine node2_step (fun Kg hG => ?_) | (with_reducible refine hF _ _ ?_; clear hF; clear Kf) | (with_reducible refine hG _ _ _ _ ?_; clear hG; clear Kg)))); all_goals (conv => whnf); all_goals (repeat ((try (clear hG; clear Kg)); clear hN hX hR; clear Kv))
  all_goals (try simp only [etaMsg] at *)
  all_goals first
    | (rw [addQ_no (.inl (nf (by with_reducible assumption)))] <;> rfl)
    | (rw [addQ_no (.inr (nf (by with_reducible assumption)))] <;> rfl)
    | (rw [addQ_full (nt (by with_reducible assumption)) (nt (by with_reducible assumption)) (by with_reducible assumption)] <;> rfl)
    | (rw [addQ_yes (nt (by with_reducible assumption)) (nt (by with_reducible assumption)) (by with_reducible assumption)] <;> rfl)
    | (refine Ob.mk ?_
       have := queueB_len (nt (show (!queueB xs) = false by with_reducible assumption))
       simp only [Rw.len, Rw.bts, Rw.kd, kdBytes, List.length_cons, List.length_nil]
       omega)
    | exact Ob.mk (by simp)
theorem k_Take : Known Try.prog tau 30 (S2 dMsgs dInt oTake) := by
  refine knownX2 hmix tau_ok (fn := Try.f30) (by kernel_rfl) [(5, [(0, 0), (1, 0), (2, 0), (3, 0), (4, 8), (5, 22), (6, 33), (7, 127), (8, 255)])] (by kernel_rfl) _ _ _ fun xs p hfit => ⟨rfl, _, ctx_tr t_DeleteMsgs (ctx_cons k_qMay (ctx_cons k_qCopy ctx_nil)), [], ?_⟩
  clear hfit
  (repeat' (first | ((with_reducible refine body_intro ?_); (first | ((with_reducible refine seq_intro ?_ (fun Kv hN hX hR => ?_)); (next => exact rfl)) | ((with_reducible refine join_intro ?_ (fun Kv hN hX hR => ?_) ?_); (next => exact rfl)) | (conv => whnf))) | with_reducible refine body_stop (fun Kv hN hX hR => ?_) | with_reducible refine Stop.mk ?_ | with_reducible refine DrawJ.each ?_ | with_reducible exact SubJ.self _ | with_reducible refine SubJ.of ?_ | with_reducible refine fill2_step (fun Kf hF => ?_) | with_reducible refine fill2_nil ?_ | with_reducible refine node2_step (fun Kg hG => ?_) | (with_reducible refine hF _ _ ?_; clear hF; clear Kf) | (with_reducible refine hG _ _ _ _ ?_; clear hG; clear Kg) | ((with_reducible refine seq_intro ?_ (fun Kv hN hX hR => ?_)); (next => exact rfl)) | ((with_reducible refine join_intro ?_ (fun Kv hN hX hR => ?_) ?_); (next => exact rfl)) | (with_reducible refine hN _ ?_; (try (clear hG; clear Kg)); clear hN hX hR; clear Kv) | (with_reducible refine hX _ _ ?_; (try (clear hG; clear Kg)); clear hN hX hR; clear Kv) | (with_reducible refine hR _ ?_; (try (clear hG; clear Kg)); clear hN hX hR; clear Kv) | ((conv => whnf); first | with_reducible rfl | with_reducible exact True.intro | with_reducible intro _ | with_reducible refine And.intro ?_ ?_ | (with_reducible refine hN _ ?_; (try (clear hG; clear Kg)); clear hN hX hR; clear Kv) | (with_reducible refine hX _ _ ?_; (try (clear hG; clear Kg)); clear hN hX hR; clear Kv) | (with_reducible refine hR _ ?_; (try (clear hG; clear Kg)); clear hN hX hR; clear Kv) | with_reducible refine body_stop (fun Kv hN hX hR => ?_) | with_reducible refine Stop.mk ?_ | with_reducible refine DrawJ.each ?_ | with_reducible exact SubJ.self _ | with_reducible refine SubJ.of ?_ | with_reducible refine fill2_step (fun Kf hF => ?_) | with_reducible refine fill2_nil ?_ | with_reducible refine node2_step (fun Kg hG => ?_) | (with_reducible refine hF _ _ ?_; clear hF; clear Kf) | (with_reducible refine hG _ _ _ _ ?_; clear hG; clear Kg)))); all_goals (conv => whnf); all_goals (repeat ((try (clear hG; clear Kg)); clear hN hX hR; clear Kv))
  all_goals first
    | (rw [takeQ_no (.inl (nf (by with_reducible assumption)))] <;> rfl)
    | (rw [takeQ_no (.inr (.inl (by with_reducible assumption)))] <;> rfl)
    | (rw [takeQ_no (.inr (.inr (by with_reducible assumption)))] <;> rfl)
    | (have h1 : (!queueB xs) = false := by with_reducible assumption
       have h2 : decide (p < 0) = false := by with_reducible assumption
       have h3 : decide ((xs.length : Int) ≤ p) = false := by with_reducible assumption
       have g1 := nt h1
       have g2 := of_decide_eq_false h2
       have g3 := of_decide_eq_false h3
       have g4 := queueB_len g1
       have e1 : IntKind.i64.wrap (p + 1) = p + 1 := wrapI (by omega) (by omega)
       have e2 : (p + 1).toNat = p.toNat + 1 := by omega
       first
         | exact Ob.mk ⟨by omega, by omega⟩
         | exact Ob.mk ⟨by omega, by rw [e1]; omega, by rw [e1]; omega⟩
         | (refine Ob.mk ?_
            simp only [Rw.sub, Rw.len, Rw.bts, Rw.kd, kdBytes, List.length_cons, List.length_nil, List.length_append, List.length_take, List.length_drop, e1, e2, Int.toNat_natCast, Int.toNat_zero]
            omega)
         | (rw [takeQ_yes g1 h2 h3, e1, e2] <;> rfl)
         | (rw [takeQ_yes g1 h2 h3] <;> rfl)
         | (rw [takeQ_yes g1 h2 h3, e1, e2]
            simp
            done))
    | skip
theorem k_refAdd : Known Try.prog tau 29 (S2 dMsgs dMsg oAdd) := by
  refine known2 hmix tau_ok (ctx_cons k_refQueueMay (ctx_cons k_refMsg (ctx_cons k_refCopyMsgs ctx_nil))) (fn := Try.f29) (by kernel_rfl) [] (by kernel_rfl) _ _ _ fun xs m hfit => ⟨rfl, [], ?_⟩
  clear hfit
  (repeat' (first | ((with_reducible refine body_intro ?_); (first | ((with_reducible refine seq_intro ?_ (fun Kv hN hX hR => ?_)); (next => exact rfl)) | ((with_reducible refine join_intro ?_ (fun Kv hN hX hR => ?_) ?_); (next => exact rfl)) | (conv => whnf))) | with_reducible refine body_stop (fun Kv hN hX hR => ?_) | with_reducible refine Stop.mk ?_ | with_reducible refine DrawJ.each ?_ | with_reducible exact SubJ.self _ | with_reducible refine SubJ.of ?_ | with_reducible refine fill2_step (fun Kf hF => ?_) | with_reducible refine fill2_nil ?_ | with_reducible refine node2_step (fun Kg hG => ?_) | (with_reducible refine hF _ _ ?_; clear hF; clear Kf) | (with_reducible refine hG _ _ _ _ ?_; clear hG; clear Kg) | ((with_reducible refine seq_intro ?_ (fun Kv hN hX hR => ?_)); (next => exact rfl)) | ((with_reducible refine join_intro ?_ (fun Kv hN hX hR => ?_) ?_); (next => exact rfl)) | (with_reducible refine hN _ ?_; (try (clear hG; clear Kg)); clear hN hX hR; clear Kv) | (with_reducible refine hX _ _ ?_; (try (clear hG; clear Kg)); clear hN hX hR; clear Kv) | (with_reducible refine hR _ ?_; (try (clear hG; clear Kg)); clear hN hX hR; clear Kv) | ((conv => whnf); first | with_reducible rfl | with_reducible exact True.intro | with_reducible intro _ | with_reducible refine And.intro ?_ ?_ | (with_reducible refine hN _ ?_; (try (clear hG; clear Kg)); clear hN hX hR; clear Kv) | (with_reducible refine hX _ _ ?_; (try (clear hG; clear Kg)); clear hN hX hR; clear Kv) | (with_reducible refine hR _ ?_; (try (clear hG; clear Kg)); clear hN hX hR; clear Kv) | with_reducible refine body_stop (fun Kv hN hX hR => ?_) | with_reducible refine Stop.mk ?_ | with_reducible refine DrawJ.each ?_ | with_reducible exact SubJ.self _ | with_reducible refine SubJ.of ?_ | with_reducible refine fill2_step (fun Kf hF => ?_) | with_reducible refine fill2_nil ?_ | with_reducible refine node2_step (fun Kg hG => ?_) | (with_reducible refine hF _ _ ?_; clear hF; clear Kf) | (with_reducible refine hG _ _ _ _ ?_; clear hG; clear Kg)))); all_goals (conv => whnf); all_goals (repeat ((try (clear hG; clear Kg)); clear hN hX hR; clear Kv))
  all_goals (try simp only [etaMsg] at *)
  all_goals first
    | (rw [addQ_no (.inl (nf (by with_reducible assumption)))] <;> rfl)
    | (rw [addQ_no (.inr (nf (by with_reducible assumption)))] <;> rfl)
    | (rw [addQ_full (nt (by with_reducible assumption)) (nt (by with_reducible assumption)) (by with_reducible assumption)] <;> rfl)
    | (rw [addQ_yes (nt (by with_reducible assumption)) (nt (by with_reducible assumption)) (by with_reducible assumption)] <;> rfl)
    | (refine Ob.mk ?_
       have := queueB_len (nt (show (!queueB xs) = false by with_reducible assumption))
       simp only [Rw.len, Rw.bts, Rw.kd, kdBytes, List.length_cons, List.length_nil]
       omega)
    | exact Ob.mk (by simp)
theorem k_refTake : Known Try.prog tau 31 (S2 dMsgs dInt oTake) := by
  refine knownX2 hmix tau_ok (fn := Try.f31) (by kernel_rfl) [] (by kernel_rfl) _ _ _ fun xs p hfit => ⟨rfl, _, (ctx_cons k_refQueueMay (ctx_cons k_refCopyMsgs ctx_nil)), [], ?_⟩
  clear hfit
  (repeat' (first | ((with_reducible refine body_intro ?_); (first | ((with_reducible refine seq_intro ?_ (fun Kv hN hX hR => ?_)); (next => exact rfl)) | ((with_reducible refine join_intro ?_ (fun Kv hN hX hR => ?_) ?_); (next => exact rfl)) | (conv => whnf))) | with_reducible refine body_stop (fun Kv hN hX hR => ?_) | with_reducible refine Stop.mk ?_ | with_reducible refine DrawJ.each ?_ | with_reducible exact SubJ.self _ | with_reducible refine SubJ.of ?_ | with_reducible refine fill2_step (fun Kf hF => ?_) | with_reducible refine fill2_nil ?_ | with_reducible refine node2_step (fun Kg hG => ?_) | (with_reducible refine hF _ _ ?_; clear hF; clear Kf) | (with_reducible refine hG _ _ _ _ ?_; clear hG; clear Kg) | ((with_reducible refine seq_intro ?_ (fun Kv hN hX hR => ?_)); (next => exact rfl)) | ((with_reducible refine join_intro ?_ (fun Kv hN hX hR => ?_) ?_); (next => exact rfl)) | (with_reducible refine hN _ ?_; (try (clear hG; clear Kg)); clear hN hX hR; clear Kv) | (with_reducible refine hX _ _ ?_; (try (clear hG; clear Kg)); clear hN hX hR; clear Kv) | (with_reducible refine hR _ ?_; (try (clear hG; clear Kg)); clear hN hX hR; clear Kv) | ((conv => whnf); first | with_reducible rfl | with_reducible exact True.intro | with_reducible intro _ | with_reducible refine And.intro ?_ ?_ | (with_reducible refine hN _ ?_; (try (clear hG; clear Kg)); clear hN hX hR; clear Kv) | (with_reducible refine hX _ _ ?_; (try (clear hG; clear Kg)); clear hN hX hR; clear Kv) | (with_reducible refine hR _ ?_; (try (clear hG; clear Kg)); clear hN hX hR; clear Kv) | with_reducible refine body_stop (fun Kv hN hX hR => ?_) | with_reducible refine Stop.mk ?_ | with_reducible refine DrawJ.each ?_ | with_reducible exact SubJ.self _ | with_reducible refine SubJ.of ?_ | with_reducible refine fill2_step (fun Kf hF => ?_) | with_reducible refine fill2_nil ?_ | with_reducible refine node2_step (fun Kg hG => ?_) | (with_reducible refine hF _ _ ?_; clear hF; clear Kf) | (with_reducible refine hG _ _ _ _ ?_; clear hG; clear Kg)))); all_goals (conv => whnf); all_goals (repeat ((try (clear hG; clear Kg)); clear hN hX hR; clear Kv))
  all_goals first
    | (rw [takeQ_no (.inl (nf (by with_reducible assumption)))] <;> rfl)
    | (rw [takeQ_no (.inr (.inl (by with_reducible assumption)))] <;> rfl)
    | (rw [takeQ_no (.inr (.inr (by with_reducible assumption)))] <;> rfl)
    | (have h1 : (!queueB xs) = false := by with_reducible assumption
       have h2 : decide (p < 0) = false := by with_reducible assumption
       have h3 : decide ((xs.length : Int) ≤ p) = false := by with_reducible assumption
       have g1 := nt h1
       have g2 := of_decide_eq_false h2
       have g3 := of_decide_eq_false h3
       have g4 := queueB_len g1
       have e1 : IntKind.i64.wrap (p + 1) = p + 1 := wrapI (by omega) (by omega)
       have e2 : (p + 1).toNat = p.toNat + 1 := by omega
       first
         | exact Ob.mk ⟨by omega, by omega⟩
         | exact Ob.mk ⟨by omega, by rw [e1]; omega, by rw [e1]; omega⟩
         | (refine Ob.mk ?_
            simp only [Rw.sub, Rw.len, Rw.bts, Rw.kd, kdBytes, List.length_cons, List.length_nil, List.length_append, List.length_take, List.length_drop, e1, e2, Int.toNat_natCast, Int.toNat_zero]
            omega)
         | (rw [takeQ_yes g1 h2 h3, e1, e2] <;> rfl)
         | (rw [takeQ_yes g1 h2 h3] <;> rfl)
         | (rw [takeQ_yes g1 h2 h3, e1, e2]
            simp
            done))
    | skip
theorem k_SameMsgs : Known Try.prog tau 32 (S2 dMsgs dMsgs fun a b => okB (decide (a = b))) := by
  refine known2 hmix tau_ok (ctx_cons k_SameMsg ctx_nil) (fn := Try.f32) (by kernel_rfl) [(6, [(0, 0), (1, 0), (2, 3), (3, 4), (4, 0), (5, 0), (6, 48), (7, 64), (8, 136), (9, 256)])] (by kernel_rfl) _ _ _ fun xs ys hfit => ⟨rfl,
    [(4, invN [4, 5, 11, 12, 13, 14, 15, 16, 17, 18, 19, 20, 21, 22, 23, 24, 25, 26] (fun i => i ≤ xs.length ∧ ∀ j, j < i → xs.getD j default = ys.getD j default) (fun i => withS [(5, .int .i64 i)]) (fun i => xs.length - i))], ?_⟩
  have hlen : xs.length * 104 ≤ 140737488355328 := hfit.1.1
  clear hfit
  (repeat' (first | ((with_reducible refine body_intro ?_); (first | ((with_reducible refine seq_intro ?_ (fun Kv hN hX hR => ?_)); (next => exact rfl)) | ((with_reducible refine join_intro ?_ (fun Kv hN hX hR => ?_) ?_); (next => exact rfl)) | (conv => whnf))) | with_reducible refine body_stop (fun Kv hN hX hR => ?_) | with_reducible refine Stop.mk ?_ | with_reducible refine DrawJ.each ?_ | with_reducible exact SubJ.self _ | with_reducible refine SubJ.of ?_ | with_reducible refine fill2_step (fun Kf hF => ?_) | with_reducible refine fill2_nil ?_ | with_reducible refine node2_step (fun Kg hG => ?_) | (with_reducible refine hF _ _ ?_; clear hF; clear Kf) | (with_reducible refine hG _ _ _ _ ?_; clear hG; clear Kg) | ((with_reducible refine seq_intro ?_ (fun Kv hN hX hR => ?_)); (next => exact rfl)) | ((with_reducible refine join_intro ?_ (fun Kv hN hX hR => ?_) ?_); (next => exact rfl)) | (with_reducible refine hN _ ?_; (try (clear hG; clear Kg)); clear hN hX hR; clear Kv) | (with_reducible refine hX _ _ ?_; (try (clear hG; clear Kg)); clear hN hX hR; clear Kv) | (with_reducible refine hR _ ?_; (try (clear hG; clear Kg)); clear hN hX hR; clear Kv) | ((conv => whnf); first | with_reducible rfl | with_reducible exact True.intro | with_reducible refine (fun (_ : (_ : Prop)) => ?_) | with_reducible refine And.intro ?_ ?_ | (with_reducible refine hN _ ?_; (try (clear hG; clear Kg)); clear hN hX hR; clear Kv) | (with_reducible refine hX _ _ ?_; (try (clear hG; clear Kg)); clear hN hX hR; clear Kv) | (with_reducible refine hR _ ?_; (try (clear hG; clear Kg)); clear hN hX hR; clear Kv) | with_reducible refine body_stop (fun Kv hN hX hR => ?_) | with_reducible refine Stop.mk ?_ | with_reducible refine DrawJ.each ?_ | with_reducible exact SubJ.self _ | with_reducible refine SubJ.of ?_ | with_reducible refine fill2_step (fun Kf hF => ?_) | with_reducible refine fill2_nil ?_ | with_reducible refine node2_step (fun Kg hG => ?_) | (with_reducible refine hF _ _ ?_; clear hF; clear Kf) | (with_reducible refine hG _ _ _ _ ?_; clear hG; clear Kg)))); all_goals (conv => whnf); all_goals (repeat ((try (clear hG; clear Kg)); clear hN hX hR; clear Kv))
  all_goals first
    | (have h := of_decide_eq_false (nf (by with_reducible assumption))
       exact (decide_eq_false (fun e => h (by rw [e]))).symm)
    | (refine ⟨0, ⟨by omega, by intros; omega⟩, ?_⟩
       (repeat' (first | ((with_reducible refine body_intro ?_); (first | ((with_reducible refine seq_intro ?_ (fun Kv hN hX hR => ?_)); (next => exact rfl)) | ((with_reducible refine join_intro ?_ (fun Kv hN hX hR => ?_) ?_); (next => exact rfl)) | (conv => whnf))) | with_reducible refine body_stop (fun Kv hN hX hR => ?_) | with_reducible refine Stop.mk ?_ | with_reducible refine DrawJ.each ?_ | with_reducible exact SubJ.self _ | with_reducible refine SubJ.of ?_ | with_reducible refine fill2_step (fun Kf hF => ?_) | with_reducible refine fill2_nil ?_ | with_reducible refine node2_step (fun Kg hG => ?_) | (with_reducible refine hF _ _ ?_; clear hF; clear Kf) | (with_reducible refine hG _ _ _ _ ?_; clear hG; clear Kg) | ((with_reducible refine seq_intro ?_ (fun Kv hN hX hR => ?_)); (next => exact rfl)) | ((with_reducible refine join_intro ?_ (fun Kv hN hX hR => ?_) ?_); (next => exact rfl)) | (with_reducible refine hN _ ?_; (try (clear hG; clear Kg)); clear hN hX hR; clear Kv) | (with_reducible refine hX _ _ ?_; (try (clear hG; clear Kg)); clear hN hX hR; clear Kv) | (with_reducible refine hR _ ?_; (try (clear hG; clear Kg)); clear hN hX hR; clear Kv) | ((conv => whnf); first | with_reducible rfl | with_reducible exact True.intro | with_reducible intro _ | with_reducible refine And.intro ?_ ?_ | (with_reducible refine hN _ ?_; (try (clear hG; clear Kg)); clear hN hX hR; clear Kv) | (with_reducible refine hX _ _ ?_; (try (clear hG; clear Kg)); clear hN hX hR; clear Kv) | (with_reducible refine hR _ ?_; (try (clear hG; clear Kg)); clear hN hX hR; clear Kv) | with_reducible refine body_stop (fun Kv hN hX hR => ?_) | with_reducible refine Stop.mk ?_ | with_reducible refine DrawJ.each ?_ | with_reducible exact SubJ.self _ | with_reducible refine SubJ.of ?_ | with_reducible refine fill2_step (fun Kf hF => ?_) | with_reducible refine fill2_nil ?_ | with_reducible refine node2_step (fun Kg hG => ?_) | (with_reducible refine hF _ _ ?_; clear hF; clear Kf) | (with_reducible refine hG _ _ _ _ ?_; clear hG; clear Kg)))); all_goals (conv => whnf); all_goals (repeat ((try (clear hG; clear Kg)); clear hN hX hR; clear Kv))
       all_goals rfl)
    | (with_reducible intro i hi
       have hl : (xs.length : Int) = ys.length := of_decide_eq_true (nt (by with_reducible assumption))
       (repeat' (first | ((with_reducible refine body_intro ?_); (first | ((with_reducible refine seq_intro ?_ (fun Kv hN hX hR => ?_)); (next => exact rfl)) | ((with_reducible refine join_intro ?_ (fun Kv hN hX hR => ?_) ?_); (next => exact rfl)) | (conv => whnf))) | with_reducible refine body_stop (fun Kv hN hX hR => ?_) | with_reducible refine Stop.mk ?_ | with_reducible refine DrawJ.each ?_ | with_reducible exact SubJ.self _ | with_reducible refine SubJ.of ?_ | with_reducible refine fill2_step (fun Kf hF => ?_) | with_reducible refine fill2_nil ?_ | with_reducible refine node2_step (fun Kg hG => ?_) | (with_reducible refine hF _ _ ?_; clear hF; clear Kf) | (with_reducible refine hG _ _ _ _ ?_; clear hG; clear Kg) | ((with_reducible refine seq_intro ?_ (fun Kv hN hX hR => ?_)); (next => exact rfl)) | ((with_reducible refine join_intro ?_ (fun Kv hN hX hR => ?_) ?_); (next => exact rfl)) | (with_reducible refine hN _ ?_; (try (clear hG; clear Kg)); clear hN hX hR; clear Kv) | (with_reducible refine hX _ _ ?_; (try (clear hG; clear Kg)); clear hN hX hR; clear Kv) | (with_reducible refine hR _ ?_; (try (clear hG; clear Kg)); clear hN hX hR; clear Kv) | ((conv => whnf); first | with_reducible rfl | with_reducible exact True.intro | with_reducible intro _ | with_reducible refine And.intro ?_ ?_ | (with_reducible refine hN _ ?_; (try (clear hG; clear Kg)); clear hN hX hR; clear Kv) | (with_reducible refine hX _ _ ?_; (try (clear hG; clear Kg)); clear hN hX hR; clear Kv) | (with_reducible refine hR _ ?_; (try (clear hG; clear Kg)); clear hN hX hR; clear Kv) | with_reducible refine body_stop (fun Kv hN hX hR => ?_) | with_reducible refine Stop.mk ?_ | with_reducible refine DrawJ.each ?_ | with_reducible exact SubJ.self _ | with_reducible refine SubJ.of ?_ | with_reducible refine fill2_step (fun Kf hF => ?_) | with_reducible refine fill2_nil ?_ | with_reducible refine node2_step (fun Kg hG => ?_) | (with_reducible refine hF _ _ ?_; clear hF; clear Kf) | (with_reducible refine hG _ _ _ _ ?_; clear hG; clear Kg)))); all_goals (conv => whnf); all_goals (repeat ((try (clear hG; clear Kg)); clear hN hX hR; clear Kv))
       all_goals (try simp only [Int.toNat_natCast, etaMsg] at *)
       all_goals first
         | (have h := of_decide_eq_true (show decide ((i : Int) < (xs.length : Nat)) = true by with_reducible assumption)
            exact Ob.mk ⟨by omega, by omega⟩)
         | (have h3 := of_decide_eq_false (nf (by with_reducible assumption))
            exact (decide_eq_false (fun e => h3 (by rw [e]))).symm)
         | (have h := of_decide_eq_true (show decide ((i : Int) < (xs.length : Nat)) = true by with_reducible assumption)
            have h3 : xs.getD i default = ys.getD i default := of_decide_eq_true (nt (by with_reducible assumption))
            refine ⟨i + 1, ⟨by omega, fun j hj => ?_⟩, by show xs.length - (i + 1) < xs.length - i; omega, ?_⟩
            · rcases Nat.lt_succ_iff_lt_or_eq.1 hj with h4 | h4
              · exact hi.2 j h4
              · subst h4; exact h3
            · (repeat' (first | ((with_reducible refine body_intro ?_); (first | ((with_reducible refine seq_intro ?_ (fun Kv hN hX hR => ?_)); (next => exact rfl)) | ((with_reducible refine join_intro ?_ (fun Kv hN hX hR => ?_) ?_); (next => exact rfl)) | (conv => whnf))) | with_reducible refine body_stop (fun Kv hN hX hR => ?_) | with_reducible refine Stop.mk ?_ | with_reducible refine DrawJ.each ?_ | with_reducible exact SubJ.self _ | with_reducible refine SubJ.of ?_ | with_reducible refine fill2_step (fun Kf hF => ?_) | with_reducible refine fill2_nil ?_ | with_reducible refine node2_step (fun Kg hG => ?_) | (with_reducible refine hF _ _ ?_; clear hF; clear Kf) | (with_reducible refine hG _ _ _ _ ?_; clear hG; clear Kg) | ((with_reducible refine seq_intro ?_ (fun Kv hN hX hR => ?_)); (next => exact rfl)) | ((with_reducible refine join_intro ?_ (fun Kv hN hX hR => ?_) ?_); (next => exact rfl)) | (with_reducible refine hN _ ?_; (try (clear hG; clear Kg)); clear hN hX hR; clear Kv) | (with_reducible refine hX _ _ ?_; (try (clear hG; clear Kg)); clear hN hX hR; clear Kv) | (with_reducible refine hR _ ?_; (try (clear hG; clear Kg)); clear hN hX hR; clear Kv) | ((conv => whnf); first | with_reducible rfl | with_reducible exact True.intro | with_reducible intro _ | with_reducible refine And.intro ?_ ?_ | (with_reducible refine hN _ ?_; (try (clear hG; clear Kg)); clear hN hX hR; clear Kv) | (with_reducible refine hX _ _ ?_; (try (clear hG; clear Kg)); clear hN hX hR; clear Kv) | (with_reducible refine hR _ ?_; (try (clear hG; clear Kg)); clear hN hX hR; clear Kv) | with_reducible refine body_stop (fun Kv hN hX hR => ?_) | with_reducible refine Stop.mk ?_ | with_reducible refine DrawJ.each ?_ | with_reducible exact SubJ.self _ | with_reducible refine SubJ.of ?_ | with_reducible refine fill2_step (fun Kf hF => ?_) | with_reducible refine fill2_nil ?_ | with_reducible refine node2_step (fun Kg hG => ?_) | (with_reducible refine hF _ _ ?_; clear hF; clear Kf) | (with_reducible refine hG _ _ _ _ ?_; clear hG; clear Kg)))); all_goals (conv => whnf); all_goals (repeat ((try (clear hG; clear Kg)); clear hN hX hR; clear Kv))
              all_goals first
                | exact wrapI (by omega) (by omega)
                | rfl)
         | (have h := of_decide_eq_false (show decide ((i : Int) < (xs.length : Nat)) = false by with_reducible assumption)
            exact (decide_eq_true (eq_of_take (d := default) (by omega) fun j hj => hi.2 j (by omega))).symm)
         | skip)
    | skip
end Go.Proofs.Ytmgccphapkmmeaa

/- Chapter 14: the laws' functions. -/
namespace Go.Proofs.Ytmgccphapkmmeaa
open Go.RowKit

def qa : GMsg := ⟨0, 1, 2, [7], 0, ⟨0, ⟨0, 0⟩, 0, false⟩, false⟩
def qb : GMsg := ⟨2, 2, 1, [], 9, ⟨0, ⟨0, 0⟩, 0, false⟩, false⟩
theorem aw14_add : addQ [⟨0, 1, 2, [7], 0, ⟨0, ⟨0, 0⟩, 0, false⟩, false⟩] ⟨2, 2, 1, [], 9, ⟨0, ⟨0, 0⟩, 0, false⟩, false⟩ = ([⟨0, 1, 2, [7], 0, ⟨0, ⟨0, 0⟩, 0, false⟩, false⟩, ⟨2, 2, 1, [], 9, ⟨0, ⟨0, 0⟩, 0, false⟩, false⟩], 0) := by rw [addQ_def]; decide
theorem aw14_take : takeQ [⟨0, 1, 2, [7], 0, ⟨0, ⟨0, 0⟩, 0, false⟩, false⟩, ⟨2, 2, 1, [], 9, ⟨0, ⟨0, 0⟩, 0, false⟩, false⟩] 0 = (⟨0, 1, 2, [7], 0, ⟨0, ⟨0, 0⟩, 0, false⟩, false⟩, [⟨2, 2, 1, [], 9, ⟨0, ⟨0, 0⟩, 0, false⟩, false⟩], 0) := by rw [takeQ_def]; decide
theorem aw14_bad : addQ [⟨0, 1, 2, [7], 0, ⟨0, ⟨0, 0⟩, 0, false⟩, false⟩, ⟨2, 2, 1, [], 9, ⟨0, ⟨0, 0⟩, 0, false⟩, false⟩] ⟨0, 0, 0, [], 0, ⟨0, ⟨0, 0⟩, 0, false⟩, false⟩ = ([], 1400) := by rw [addQ_def]; decide
theorem aw14_past : takeQ [⟨0, 1, 2, [7], 0, ⟨0, ⟨0, 0⟩, 0, false⟩, false⟩, ⟨2, 2, 1, [], 9, ⟨0, ⟨0, 0⟩, 0, false⟩, false⟩] 2 = (msgZ, [], 1400) := by rw [takeQ_def]; decide
theorem aw14_may : queueB [⟨0, 1, 2, [7], 0, ⟨0, ⟨0, 0⟩, 0, false⟩, false⟩, ⟨2, 2, 1, [], 9, ⟨0, ⟨0, 0⟩, 0, false⟩, false⟩] = true := by decide
set_option maxHeartbeats 1000000 in
theorem k_awake14 : Known Try.prog tau 36 (S0 (okB true)) := by
  refine known0 hmix tau_ok (ctx_cons k_Add (ctx_cons k_Take (ctx_cons k_qMay (ctx_cons k_SameMsg (ctx_cons k_SameMsgs (ctx_cons k_Num ctx_nil)))))) (fn := Try.f36) (by kernel_rfl) [] (by kernel_rfl) _ fun hfit => ⟨rfl, [], ?_⟩
  clear hfit
  (repeat' (first | ((with_reducible refine body_intro ?_); (first | ((with_reducible refine seq_intro ?_ (fun Kv hN hX hR => ?_)); (next => exact rfl)) | ((with_reducible refine join_intro ?_ (fun Kv hN hX hR => ?_) ?_); (next => exact rfl)) | (conv => whnf))) | with_reducible refine body_stop (fun Kv hN hX hR => ?_) | with_reducible refine Stop.mk ?_ | with_reducible refine DrawJ.each ?_ | with_reducible exact SubJ.self _ | with_reducible refine SubJ.of ?_ | with_reducible refine fill2_step (fun Kf hF => ?_) | with_reducible refine fill2_nil ?_ | with_reducible refine node2_step (fun Kg hG => ?_) | (with_reducible refine hF _ _ ?_; clear hF; clear Kf) | (with_reducible refine hG _ _ _ _ ?_; clear hG; clear Kg) | ((with_reducible refine seq_intro ?_ (fun Kv hN hX hR => ?_)); (next => exact rfl)) | ((with_reducible refine join_intro ?_ (fun Kv hN hX hR => ?_) ?_); (next => exact rfl)) | (with_reducible refine hN _ ?_; (try (clear hG; clear Kg)); clear hN hX hR; clear Kv) | (with_reducible refine hX _ _ ?_; (try (clear hG; clear Kg)); clear hN hX hR; clear Kv) | (with_reducible refine hR _ ?_; (try (clear hG; clear Kg)); clear hN hX hR; clear Kv) | ((conv => whnf); first | with_reducible rfl | with_reducible exact True.intro | with_reducible intro _ | with_reducible refine And.intro ?_ ?_ | (with_reducible refine hN _ ?_; (try (clear hG; clear Kg)); clear hN hX hR; clear Kv) | (with_reducible refine hX _ _ ?_; (try (clear hG; clear Kg)); clear hN hX hR; clear Kv) | (with_reducible refine hR _ ?_; (try (clear hG; clear Kg)); clear hN hX hR; clear Kv) | with_reducible refine body_stop (fun Kv hN hX hR => ?_) | with_reducible refine Stop.mk ?_ | with_reducible refine DrawJ.each ?_ | with_reducible exact SubJ.self _ | with_reducible refine SubJ.of ?_ | with_reducible refine fill2_step (fun Kf hF => ?_) | with_reducible refine fill2_nil ?_ | with_reducible refine node2_step (fun Kg hG => ?_) | (with_reducible refine hF _ _ ?_; clear hF; clear Kf) | (with_reducible refine hG _ _ _ _ ?_; clear hG; clear Kg)))); all_goals (conv => whnf); all_goals (repeat ((try (clear hG; clear Kg)); clear hN hX hR; clear Kv))
  all_goals (try simp only [aw14_add, aw14_take, aw14_bad, aw14_past, aw14_may] at *)
  all_goals first
    | (refine Ob.mk ?_; decide)
    | (simp_all; done)
    | rfl
    | skip
def gQ : GMsg := ⟨0, 1, 2, [], 0, ⟨0, ⟨0, 0⟩, 0, false⟩, false⟩
/-- A queue, so much of it full. -/
noncomputable def fullQ (k : Nat) : List GMsg := Classical.choose (seal_ex (List.replicate k gQ ++ List.replicate (512 - k) default))
theorem fullQ_def (k : Nat) : fullQ k = List.replicate k gQ ++ List.replicate (512 - k) default := Classical.choose_spec (seal_ex _)
theorem fullQ_len {k : Nat} (h : k ≤ 512) : (fullQ k).length = 512 := by rw [fullQ_def, List.length_append, List.length_replicate, List.length_replicate]; omega
theorem fullQ_set {k : Nat} (h : k < 512) : (fullQ k).set k gQ = fullQ (k + 1) := by
  rw [fullQ_def, fullQ_def, List.set_append_right _ _ (by simp), List.length_replicate, Nat.sub_self, show 512 - k = (512 - (k + 1)) + 1 by omega, List.replicate_succ, List.set_cons_zero, List.replicate_succ', List.append_assoc]
  rfl
theorem fullQ_zero : Rw.zeros 7 (Int.toNat 512) = .msgs (fullQ 0) := by
  rw [fullQ_def, List.replicate_zero, List.nil_append, Nat.sub_zero]
  rfl
theorem fullQ_may : queueB (fullQ 512) = true := by
  have : mayB gQ = true := by decide
  unfold queueB
  rw [fullQ_len (Nat.le_refl _), fullQ_def, Nat.sub_self, List.replicate_zero, List.append_nil, List.all_eq_true.2 (fun x hx => by rw [(List.mem_replicate.1 hx).2]; exact this)]
  rfl
theorem qf_full : addQ (fullQ 512) gQ = ([], 1401) := by
  rw [addQ_def, if_pos ⟨fullQ_may, by decide⟩, if_pos (fullQ_len (by omega))]
theorem qf_take {p : Int} (h : p < 0 ∨ 1 ≤ p) : takeQ [gQ] p = (msgZ, [], 1400) := by
  rw [takeQ_def, if_neg]
  rintro ⟨_, h1, h2⟩
  simp at h2
  omega
theorem qf_b : queueB [gQ, ⟨0, 1, 1, [], 0, ⟨0, ⟨0, 0⟩, 0, false⟩, false⟩] = false := by decide
theorem qf_pick (a b : Int) : let d := IntKind.i64.wrap (1 + bits .and .i64 b 1023); takeQ [gQ] ([IntKind.i64.wrap (0 - d), d].getD (bits .and .i64 a 1).toNat 0) = (msgZ, [], 1400) := by
  intro d
  have hd : d = 1 + b % 1024 := by
    show IntKind.i64.wrap (1 + bits .and .i64 b 1023) = _
    rw [and1023, wrapI (by omega) (by omega)]
  have hd2 : 1 ≤ d ∧ d ≤ 1024 := by omega
  have e : IntKind.i64.wrap (0 - d) = 0 - d := wrapI (by omega) (by omega)
  rw [and1, e]
  rcases (show a % 2 = 0 ∨ a % 2 = 1 by omega) with h | h
  · rw [h]
    exact qf_take (.inl (by show 0 - d < 0; omega))
  · rw [h]
    exact qf_take (.inr (by show 1 ≤ d; omega))
theorem qf_idx (a : Int) : 0 ≤ bits .and .i64 a 1 ∧ bits .and .i64 a 1 < 2 := by rw [and1]; omega
set_option maxHeartbeats 4000000 in
theorem k_QueueForms : Known Try.prog tau 12 (S2 dInt dInt fun a b => okB true) := by
  refine known2 hmix tau_ok (ctx_cons k_Add (ctx_cons k_Take (ctx_cons k_qMay (ctx_cons k_Num (ctx_cons k_awake14 ctx_nil))))) (fn := Try.f12) (by kernel_rfl) [(9, [(0, 0), (1, 1), (2, 0), (3, 4), (4, 0), (5, 24), (6, 0), (7, 64), (8, 160), (9, 256), (10, 514), (11, 1024), (12, 2048), (13, 2048), (14, 2048), (15, 0), (16, 40959), (17, 114687), (18, 262143)])] (by kernel_rfl) _ _ _ fun a b hfit => ⟨rfl,
    [(12, invX Nat [19, 66, 67, 68, 69, 70, 71, 72, 73] [65] (fun i => i ≤ 512) (fun i st => withS [(19, .int .i64 i)] (withR [(65, .own (.msgs (fullQ i)))] st)) (fun i => 512 - i))], ?_⟩
  clear hfit
  have h1 := qf_idx a
  have h2 : takeQ [gQ] ([IntKind.i64.wrap (0 - IntKind.i64.wrap (1 + bits .and .i64 b 1023)), IntKind.i64.wrap (1 + bits .and .i64 b 1023)].getD (bits .and .i64 a 1).toNat 0) = (msgZ, [], 1400) := qf_pick a b
  have h3 : addQ [gQ, ⟨0, 1, 1, [], 0, ⟨0, ⟨0, 0⟩, 0, false⟩, false⟩] gQ = ([], 1400) := addQ_no (.inl qf_b)
  have h4 : takeQ [gQ, ⟨0, 1, 1, [], 0, ⟨0, ⟨0, 0⟩, 0, false⟩, false⟩] 0 = (msgZ, [], 1400) := takeQ_no (.inl qf_b)
  have h5 : addQ [] ⟨0, 1, 1, [], 0, ⟨0, ⟨0, 0⟩, 0, false⟩, false⟩ = ([], 1400) := addQ_no (.inr (by decide))
  have h5' : addQ [] ([gQ, ⟨0, 1, 1, [], 0, ⟨0, ⟨0, 0⟩, 0, false⟩, false⟩].getD (Int.toNat 1) default) = ([], 1400) := h5
  have h6 := qf_full
  have h7 := fullQ_may
  have h8 := qf_b
  simp only [gQ] at h2 h3 h4 h5' h6 h8
  (repeat' (first | ((with_reducible refine body_intro ?_); (first | ((with_reducible refine seq_intro ?_ (fun Kv hN hX hR => ?_)); (next => exact rfl)) | ((with_reducible refine join_intro ?_ (fun Kv hN hX hR => ?_) ?_); (next => exact rfl)) | (conv => whnf))) | with_reducible refine body_stop (fun Kv hN hX hR => ?_) | with_reducible refine Stop.mk ?_ | with_reducible apply DrawJ.join | with_reducible exact SubJ.self _ | ((with_reducible refine SubJ.of ?_); (repeat' (first | with_reducible rfl | ((conv => whnf) <;> (first | with_reducible exact True.intro | with_reducible refine And.intro ?_ ?_ | with_reducible rfl | ((conv => rhs; whnf) <;> with_reducible rfl))))); done) | with_reducible refine fill2_step (fun Kf hF => ?_) | with_reducible refine fill2_nil ?_ | with_reducible refine node2_step (fun Kg hG => ?_) | (with_reducible refine hF _ _ ?_; clear hF; clear Kf) | (with_reducible refine hG _ _ _ _ ?_; clear hG; clear Kg) | ((with_reducible refine seq_intro ?_ (fun Kv hN hX hR => ?_)); (next => exact rfl)) | ((with_reducible refine join_intro ?_ (fun Kv hN hX hR => ?_) ?_); (next => exact rfl)) | (with_reducible refine hN _ ?_; (try (clear hG; clear Kg)); clear hN hX hR; clear Kv) | (with_reducible refine hX _ _ ?_; (try (clear hG; clear Kg)); clear hN hX hR; clear Kv) | (with_reducible refine hR _ ?_; (try (clear hG; clear Kg)); clear hN hX hR; clear Kv) | ((conv => whnf); first | with_reducible rfl | with_reducible exact True.intro | with_reducible refine (fun (_ : (_ : Prop)) => ?_) | with_reducible refine And.intro ?_ ?_ | (with_reducible refine hN _ ?_; (try (clear hG; clear Kg)); clear hN hX hR; clear Kv) | (with_reducible refine hX _ _ ?_; (try (clear hG; clear Kg)); clear hN hX hR; clear Kv) | (with_reducible refine hR _ ?_; (try (clear hG; clear Kg)); clear hN hX hR; clear Kv) | with_reducible refine body_stop (fun Kv hN hX hR => ?_) | with_reducible refine Stop.mk ?_ | with_reducible apply DrawJ.join | with_reducible exact SubJ.self _ | ((with_reducible refine SubJ.of ?_); (repeat' (first | with_reducible rfl | ((conv => whnf) <;> (first | with_reducible exact True.intro | with_reducible refine And.intro ?_ ?_ | with_reducible rfl | ((conv => rhs; whnf) <;> with_reducible rfl))))); done) | with_reducible refine fill2_step (fun Kf hF => ?_) | with_reducible refine fill2_nil ?_ | with_reducible refine node2_step (fun Kg hG => ?_) | (with_reducible refine hF _ _ ?_; clear hF; clear Kf) | (with_reducible refine hG _ _ _ _ ?_; clear hG; clear Kg)))); all_goals (conv => whnf); all_goals (repeat ((try (clear hG; clear Kg)); clear hN hX hR; clear Kv))
  all_goals first
    | (refine Ob.mk ?_; decide)
    | exact absurd (show (!true) = true by with_reducible assumption) (by decide)
    | exact Ob.mk h1
    | (refine ⟨0, by omega, ?_⟩
       (repeat' (first | ((with_reducible refine body_intro ?_); (first | ((with_reducible refine seq_intro ?_ (fun Kv hN hX hR => ?_)); (next => exact rfl)) | ((with_reducible refine join_intro ?_ (fun Kv hN hX hR => ?_) ?_); (next => exact rfl)) | (conv => whnf))) | with_reducible refine body_stop (fun Kv hN hX hR => ?_) | with_reducible refine Stop.mk ?_ | with_reducible refine DrawJ.each ?_ | with_reducible exact SubJ.self _ | with_reducible refine SubJ.of ?_ | with_reducible refine fill2_step (fun Kf hF => ?_) | with_reducible refine fill2_nil ?_ | with_reducible refine node2_step (fun Kg hG => ?_) | (with_reducible refine hF _ _ ?_; clear hF; clear Kf) | (with_reducible refine hG _ _ _ _ ?_; clear hG; clear Kg) | ((with_reducible refine seq_intro ?_ (fun Kv hN hX hR => ?_)); (next => exact rfl)) | ((with_reducible refine join_intro ?_ (fun Kv hN hX hR => ?_) ?_); (next => exact rfl)) | (with_reducible refine hN _ ?_; (try (clear hG; clear Kg)); clear hN hX hR; clear Kv) | (with_reducible refine hX _ _ ?_; (try (clear hG; clear Kg)); clear hN hX hR; clear Kv) | (with_reducible refine hR _ ?_; (try (clear hG; clear Kg)); clear hN hX hR; clear Kv) | ((conv => whnf); first | with_reducible rfl | with_reducible exact True.intro | with_reducible intro _ | with_reducible refine And.intro ?_ ?_ | (with_reducible refine hN _ ?_; (try (clear hG; clear Kg)); clear hN hX hR; clear Kv) | (with_reducible refine hX _ _ ?_; (try (clear hG; clear Kg)); clear hN hX hR; clear Kv) | (with_reducible refine hR _ ?_; (try (clear hG; clear Kg)); clear hN hX hR; clear Kv) | with_reducible refine body_stop (fun Kv hN hX hR => ?_) | with_reducible refine Stop.mk ?_ | with_reducible refine DrawJ.each ?_ | with_reducible exact SubJ.self _ | with_reducible refine SubJ.of ?_ | with_reducible refine fill2_step (fun Kf hF => ?_) | with_reducible refine fill2_nil ?_ | with_reducible refine node2_step (fun Kg hG => ?_) | (with_reducible refine hF _ _ ?_; clear hF; clear Kf) | (with_reducible refine hG _ _ _ _ ?_; clear hG; clear Kg)))); all_goals (conv => whnf); all_goals (repeat ((try (clear hG; clear Kg)); clear hN hX hR; clear Kv))
       all_goals first
         | exact fullQ_zero.symm
         | exact fullQ_zero
         | rfl
         | skip
       all_goals trace_state)
    | (with_reducible intro i hi
       (repeat' (first | ((with_reducible refine body_intro ?_); (first | ((with_reducible refine seq_intro ?_ (fun Kv hN hX hR => ?_)); (next => exact rfl)) | ((with_reducible refine join_intro ?_ (fun Kv hN hX hR => ?_) ?_); (next => exact rfl)) | (conv => whnf))) | with_reducible refine body_stop (fun Kv hN hX hR => ?_) | with_reducible refine Stop.mk ?_ | with_reducible refine DrawJ.each ?_ | with_reducible exact SubJ.self _ | with_reducible refine SubJ.of ?_ | with_reducible refine fill2_step (fun Kf hF => ?_) | with_reducible refine fill2_nil ?_ | with_reducible refine node2_step (fun Kg hG => ?_) | (with_reducible refine hF _ _ ?_; clear hF; clear Kf) | (with_reducible refine hG _ _ _ _ ?_; clear hG; clear Kg) | ((with_reducible refine seq_intro ?_ (fun Kv hN hX hR => ?_)); (next => exact rfl)) | ((with_reducible refine join_intro ?_ (fun Kv hN hX hR => ?_) ?_); (next => exact rfl)) | (with_reducible refine hN _ ?_; (try (clear hG; clear Kg)); clear hN hX hR; clear Kv) | (with_reducible refine hX _ _ ?_; (try (clear hG; clear Kg)); clear hN hX hR; clear Kv) | (with_reducible refine hR _ ?_; (try (clear hG; clear Kg)); clear hN hX hR; clear Kv) | ((conv => whnf); first | with_reducible rfl | with_reducible exact True.intro | with_reducible intro _ | with_reducible refine And.intro ?_ ?_ | (with_reducible refine hN _ ?_; (try (clear hG; clear Kg)); clear hN hX hR; clear Kv) | (with_reducible refine hX _ _ ?_; (try (clear hG; clear Kg)); clear hN hX hR; clear Kv) | (with_reducible refine hR _ ?_; (try (clear hG; clear Kg)); clear hN hX hR; clear Kv) | with_reducible refine body_stop (fun Kv hN hX hR => ?_) | with_reducible refine Stop.mk ?_ | with_reducible refine DrawJ.each ?_ | with_reducible exact SubJ.self _ | with_reducible refine SubJ.of ?_ | with_reducible refine fill2_step (fun Kf hF => ?_) | with_reducible refine fill2_nil ?_ | with_reducible refine node2_step (fun Kg hG => ?_) | (with_reducible refine hF _ _ ?_; clear hF; clear Kf) | (with_reducible refine hG _ _ _ _ ?_; clear hG; clear Kg)))); all_goals (conv => whnf); all_goals (repeat ((try (clear hG; clear Kg)); clear hN hX hR; clear Kv))
       all_goals first
         | (have h := of_decide_eq_true (show decide ((i : Int) < 512) = true by with_reducible assumption)
            have hl := fullQ_len (k := i) (by omega)
            exact Ob.mk ⟨by omega, by rw [hl]; exact h⟩)
         | (have h := of_decide_eq_true (show decide ((i : Int) < 512) = true by with_reducible assumption)
            refine ⟨i + 1, by omega, by show 512 - (i + 1) < 512 - i; omega, ?_⟩
            have e1 := fullQ_set (k := i) (by omega)
            (repeat' (first | ((with_reducible refine body_intro ?_); (first | ((with_reducible refine seq_intro ?_ (fun Kv hN hX hR => ?_)); (next => exact rfl)) | ((with_reducible refine join_intro ?_ (fun Kv hN hX hR => ?_) ?_); (next => exact rfl)) | (conv => whnf))) | with_reducible refine body_stop (fun Kv hN hX hR => ?_) | with_reducible refine Stop.mk ?_ | with_reducible refine DrawJ.each ?_ | with_reducible exact SubJ.self _ | with_reducible refine SubJ.of ?_ | with_reducible refine fill2_step (fun Kf hF => ?_) | with_reducible refine fill2_nil ?_ | with_reducible refine node2_step (fun Kg hG => ?_) | (with_reducible refine hF _ _ ?_; clear hF; clear Kf) | (with_reducible refine hG _ _ _ _ ?_; clear hG; clear Kg) | ((with_reducible refine seq_intro ?_ (fun Kv hN hX hR => ?_)); (next => exact rfl)) | ((with_reducible refine join_intro ?_ (fun Kv hN hX hR => ?_) ?_); (next => exact rfl)) | (with_reducible refine hN _ ?_; (try (clear hG; clear Kg)); clear hN hX hR; clear Kv) | (with_reducible refine hX _ _ ?_; (try (clear hG; clear Kg)); clear hN hX hR; clear Kv) | (with_reducible refine hR _ ?_; (try (clear hG; clear Kg)); clear hN hX hR; clear Kv) | ((conv => whnf); first | with_reducible rfl | with_reducible exact True.intro | with_reducible intro _ | with_reducible refine And.intro ?_ ?_ | (with_reducible refine hN _ ?_; (try (clear hG; clear Kg)); clear hN hX hR; clear Kv) | (with_reducible refine hX _ _ ?_; (try (clear hG; clear Kg)); clear hN hX hR; clear Kv) | (with_reducible refine hR _ ?_; (try (clear hG; clear Kg)); clear hN hX hR; clear Kv) | with_reducible refine body_stop (fun Kv hN hX hR => ?_) | with_reducible refine Stop.mk ?_ | with_reducible refine DrawJ.each ?_ | with_reducible exact SubJ.self _ | with_reducible refine SubJ.of ?_ | with_reducible refine fill2_step (fun Kf hF => ?_) | with_reducible refine fill2_nil ?_ | with_reducible refine node2_step (fun Kg hG => ?_) | (with_reducible refine hF _ _ ?_; clear hF; clear Kf) | (with_reducible refine hG _ _ _ _ ?_; clear hG; clear Kg)))); all_goals (conv => whnf); all_goals (repeat ((try (clear hG; clear Kg)); clear hN hX hR; clear Kv))
            all_goals first
              | exact wrapI (by omega) (by omega)
              | exact congrArg Rw.msgs e1
              | rfl)
         | (have h := of_decide_eq_false (show decide ((i : Int) < 512) = false by with_reducible assumption)
            obtain rfl : i = 512 := by omega
            simp only [etaMsg, h2, h3, h4, h5', h6, h7, h8, decide_true, Bool.not_true, Bool.not_false, Bool.false_eq_true, Bool.true_eq_false, reduceCtorEq] at *
            done)
         | skip)
    | skip
end Go.Proofs.Ytmgccphapkmmeaa

/- Chapter 14: what is added comes in its row. -/
namespace Go.Proofs.Ytmgccphapkmmeaa
open Go.RowKit

theorem queueB_iff {l : List GMsg} : queueB l = true ↔ l.length ≤ 512 ∧ l.all mayB = true := by
  simp only [queueB, Bool.and_eq_true, decide_eq_true_eq]
  exact ⟨fun h => ⟨by omega, h.2⟩, fun h => ⟨by omega, h.2⟩⟩
theorem addQ_take {ms : List GMsg} {i : Nat} (h : i < ms.length) (hi : i < 20) (hq : (ms.take i).all mayB = true) : addQ (ms.take i) (ms.getD i default) = if mayB (ms.getD i default) = true then (ms.take (i + 1), 0) else ([], 1400) := by
  have h1 : (ms.take i).length = i := by rw [List.length_take]; omega
  have h2 : queueB (ms.take i) = true := queueB_iff.2 ⟨by omega, hq⟩
  split
  · rename_i hm
    rw [addQ_yes h2 hm (decide_eq_false (by rw [h1]; omega)), List.take_succ_eq_append_getElem h]
    simp [List.getD_eq_getElem?_getD, h]
  · rename_i hm
    exact addQ_no (.inr (by simpa using hm))
theorem queueB_getD {ms : List GMsg} {i : Nat} (h : i < ms.length) (hm : ¬ mayB (ms.getD i default) = true) : queueB ms = false :=
  queueB_no (List.all_eq_false.2 ⟨_, getD_mem (d := default) h, by simpa using hm⟩)
theorem pick_at {x : Int} {n : Nat} (hn : 0 < n) (hb : n ≤ 512) : ∃ k : Nat, IntKind.i64.wrap ((IntKind.u64.wrap x).tmod (IntKind.u64.wrap (n : Int))) = (k : Int) ∧ k < n := by
  have h1 : IntKind.u64.wrap (n : Int) = n := by rw [wu64]; omega
  have h2 : 0 ≤ IntKind.u64.wrap x := by rw [wu64]; omega
  rw [h1, tmod_pos h2]
  have h3 := Int.emod_nonneg (IntKind.u64.wrap x) (show (n : Int) ≠ 0 by omega)
  have h4 := Int.emod_lt_of_pos (IntKind.u64.wrap x) (show (0 : Int) < n by omega)
  rw [wrapI (by omega) (by omega)]
  exact ⟨((IntKind.u64.wrap x) % (n : Int)).toNat, by omega, by omega⟩
theorem takeQ_at {q : List GMsg} {k : Nat} (hq : queueB q = true) (hk : k < q.length) : takeQ q k = (q.getD k default, q.take k ++ q.drop (k + 1), 0) := by
  rw [takeQ_def, if_pos ⟨hq, by omega, by omega⟩]
  rfl
theorem left_len {q : List GMsg} {k : Nat} (hk : k < q.length) : (q.take k ++ q.drop (k + 1)).length = q.length - 1 := by
  simp
  omega
theorem left_at {q : List GMsg} {k i : Nat} (hk : k < q.length) (hi : i < q.length - 1) : (q.take k ++ q.drop (k + 1)).getD i default = q.getD (if k ≤ i then i + 1 else i) default := by
  simp only [List.getD_eq_getElem?_getD]
  split
  · rename_i h
    rw [List.getElem?_append_right (by simp; omega), List.getElem?_drop]
    congr 2
    simp
    omega
  · rename_i h
    rw [List.getElem?_append_left (by simp; omega), List.getElem?_take_of_lt (by omega)]
theorem take20_at {ms : List GMsg} {i : Nat} (h : i < (ms.take 20).length) : (ms.take 20).getD i default = ms.getD i default := by
  rw [List.length_take] at h
  simp only [List.getD_eq_getElem?_getD]
  rw [List.getElem?_take_of_lt (by omega)]
theorem take20_all {ms : List GMsg} {i : Nat} (h : ¬ (i : Int) < (ms.length : Nat) ∨ ¬ (i : Int) < 20) (h1 : i ≤ 20) (h2 : i ≤ ms.length) : ms.take i = ms.take 20 := by
  rcases h with h | h
  · rw [List.take_of_length_le (by omega), List.take_of_length_le (by omega)]
  · rw [show i = 20 by omega]
theorem add_bad {ms : List GMsg} {i : Nat} (h : i < ms.length) (hi : i < 20) (hq : (ms.take i).all mayB = true) (hne : (!decide ((addQ (ms.take i) (ms.getD i default)).2 = 0)) = true) : queueB ms = false ∧ (addQ (ms.take i) (ms.getD i default)).1 = [] := by
  have e := addQ_take h hi hq
  by_cases hm : mayB (ms.getD i default) = true
  · rw [if_pos hm] at e
    rw [e] at hne
    simp at hne
  · rw [if_neg hm] at e
    exact ⟨queueB_getD h hm, by rw [e]⟩
theorem add_good {ms : List GMsg} {i : Nat} (h : i < ms.length) (hi : i < 20) (hq : (ms.take i).all mayB = true) (hne : (!decide ((addQ (ms.take i) (ms.getD i default)).2 = 0)) = false) : (addQ (ms.take i) (ms.getD i default)).1 = ms.take (i + 1) ∧ (ms.take (i + 1)).all mayB = true := by
  have e := addQ_take h hi hq
  by_cases hm : mayB (ms.getD i default) = true
  · rw [if_pos hm] at e
    refine ⟨by rw [e], ?_⟩
    rw [List.take_succ_eq_append_getElem h, List.all_append, hq]
    simpa [List.getD_eq_getElem?_getD, h] using hm
  · rw [if_neg hm] at e
    rw [e] at hne
    simp at hne
theorem row_left {ms : List GMsg} {k i : Nat} (hk : k < (ms.take 20).length) (hi : i < (ms.take 20).length - 1) : ((ms.take 20).take k ++ (ms.take 20).drop (k + 1)).getD i default = ms.getD (if k ≤ i then i + 1 else i) default := by
  rw [left_at hk hi, take20_at (by split <;> omega)]
set_option maxHeartbeats 4000000 in
theorem k_QueueRow : Known Try.prog tau 13 (S2 dMsgs dInt fun a b => okB true) := by
  refine known2 hmix tau_ok (ctx_cons k_awake14 (ctx_cons k_qMay (ctx_cons k_Num (ctx_cons k_Add (ctx_cons k_Take (ctx_cons k_SameMsg ctx_nil)))))) (fn := Try.f13) (by kernel_rfl) [(15, [(0, 0), (1, 1), (2, 2), (3, 6), (4, 8), (5, 24), (6, 8), (7, 72), (8, 136), (9, 296), (10, 520), (11, 1032), (12, 2048), (13, 2048), (14, 2048), (15, 26624), (16, 34816), (17, 71680), (18, 133120), (19, 264192)]), (23, [(0, 0), (1, 0), (2, 3), (3, 4), (4, 0), (5, 0), (6, 48), (7, 64), (8, 136), (9, 256)])] (by kernel_rfl) _ _ _ fun ms p hfit => ⟨rfl,
    [(5, invF Nat [] (4 :: 5 :: 6 :: 7 :: 8 :: 17 :: 18 :: 19 :: 20 :: 21 :: 22 :: 23 :: 24 :: 25 :: 26 :: 27 :: 28 :: 29 :: 30 :: 31 :: 32 :: 33 :: 34 :: 35 :: 36 :: 37 :: 38 :: 39 :: 40 :: 41 :: 42 :: 43 :: 44 :: 45 :: 46 :: 47 :: []) [] (fun i => i ≤ 20 ∧ i ≤ ms.length ∧ (ms.take i).all mayB = true) (fun i => withS [(6, .int .i64 i), (5, .row .new (.msgs (ms.take i)))]) (fun i => 20 - i)),
     (1000011, invF Unit [] (4 :: 5 :: 6 :: 7 :: 8 :: 17 :: 18 :: 19 :: 20 :: 21 :: 22 :: 23 :: 24 :: 25 :: 26 :: 27 :: 28 :: 29 :: 30 :: 31 :: 32 :: 33 :: 34 :: 35 :: 36 :: 37 :: 38 :: 39 :: 40 :: 41 :: 42 :: 43 :: 44 :: 45 :: 46 :: 47 :: []) [] (fun _ => (ms.take 20).all mayB = true) (fun _ => withS [(5, .row .new (.msgs (ms.take 20)))]) (fun _ => 0)),
     (18, invN [4, 13, 14, 95, 96, 97, 98, 99, 100, 101, 102, 103, 104, 105, 106, 107, 108, 109, 110, 111, 112, 113, 114, 115, 116] (fun i => i ≤ (ms.take 20).length - 1) (fun i => withS [(13, .int .i64 i)]) (fun i => (ms.take 20).length - 1 - i))], ?_⟩
  have hlen : ms.length * 104 ≤ 140737488355328 := hfit.1.1
  clear hfit
  (repeat' (first | ((with_reducible refine body_intro ?_); (first | ((with_reducible refine seq_intro ?_ (fun Kv hN hX hR => ?_)); (next => exact rfl)) | ((with_reducible refine join_intro ?_ (fun Kv hN hX hR => ?_) ?_); (next => exact rfl)) | (conv => whnf))) | with_reducible refine body_stop (fun Kv hN hX hR => ?_) | with_reducible refine Stop.mk ?_ | with_reducible refine DrawJ.each ?_ | with_reducible exact SubJ.self _ | with_reducible refine SubJ.of ?_ | with_reducible refine fill2_step (fun Kf hF => ?_) | with_reducible refine fill2_nil ?_ | with_reducible refine node2_step (fun Kg hG => ?_) | (with_reducible refine hF _ _ ?_; clear hF; clear Kf) | (with_reducible refine hG _ _ _ _ ?_; clear hG; clear Kg) | ((with_reducible refine seq_intro ?_ (fun Kv hN hX hR => ?_)); (next => exact rfl)) | ((with_reducible refine join_intro ?_ (fun Kv hN hX hR => ?_) ?_); (next => exact rfl)) | (with_reducible refine hN _ ?_; (try (clear hG; clear Kg)); clear hN hX hR; clear Kv) | (with_reducible refine hX _ _ ?_; (try (clear hG; clear Kg)); clear hN hX hR; clear Kv) | (with_reducible refine hR _ ?_; (try (clear hG; clear Kg)); clear hN hX hR; clear Kv) | ((conv => whnf); first | with_reducible rfl | with_reducible exact True.intro | with_reducible refine (fun (_ : (_ : Prop)) => ?_) | with_reducible refine And.intro ?_ ?_ | (with_reducible refine hN _ ?_; (try (clear hG; clear Kg)); clear hN hX hR; clear Kv) | (with_reducible refine hX _ _ ?_; (try (clear hG; clear Kg)); clear hN hX hR; clear Kv) | (with_reducible refine hR _ ?_; (try (clear hG; clear Kg)); clear hN hX hR; clear Kv) | with_reducible refine body_stop (fun Kv hN hX hR => ?_) | with_reducible refine Stop.mk ?_ | with_reducible refine DrawJ.each ?_ | with_reducible exact SubJ.self _ | with_reducible refine SubJ.of ?_ | with_reducible refine fill2_step (fun Kf hF => ?_) | with_reducible refine fill2_nil ?_ | with_reducible refine node2_step (fun Kg hG => ?_) | (with_reducible refine hF _ _ ?_; clear hF; clear Kf) | (with_reducible refine hG _ _ _ _ ?_; clear hG; clear Kg)))); all_goals (conv => whnf); all_goals (repeat ((try (clear hG; clear Kg)); clear hN hX hR; clear Kv))
  all_goals first
    | exact absurd (show (!true) = true by with_reducible assumption) (by decide)
    | (refine ⟨0, ⟨by omega, by omega, by simp⟩, ?_⟩
       (repeat' (first | ((with_reducible refine body_intro ?_); (first | ((with_reducible refine seq_intro ?_ (fun Kv hN hX hR => ?_)); (next => exact rfl)) | ((with_reducible refine join_intro ?_ (fun Kv hN hX hR => ?_) ?_); (next => exact rfl)) | (conv => whnf))) | with_reducible refine body_stop (fun Kv hN hX hR => ?_) | with_reducible refine Stop.mk ?_ | with_reducible refine DrawJ.each ?_ | with_reducible exact SubJ.self _ | with_reducible refine SubJ.of ?_ | with_reducible refine fill2_step (fun Kf hF => ?_) | with_reducible refine fill2_nil ?_ | with_reducible refine node2_step (fun Kg hG => ?_) | (with_reducible refine hF _ _ ?_; clear hF; clear Kf) | (with_reducible refine hG _ _ _ _ ?_; clear hG; clear Kg) | ((with_reducible refine seq_intro ?_ (fun Kv hN hX hR => ?_)); (next => exact rfl)) | ((with_reducible refine join_intro ?_ (fun Kv hN hX hR => ?_) ?_); (next => exact rfl)) | (with_reducible refine hN _ ?_; (try (clear hG; clear Kg)); clear hN hX hR; clear Kv) | (with_reducible refine hX _ _ ?_; (try (clear hG; clear Kg)); clear hN hX hR; clear Kv) | (with_reducible refine hR _ ?_; (try (clear hG; clear Kg)); clear hN hX hR; clear Kv) | ((conv => whnf); first | with_reducible rfl | with_reducible exact True.intro | with_reducible intro _ | with_reducible refine And.intro ?_ ?_ | (with_reducible refine hN _ ?_; (try (clear hG; clear Kg)); clear hN hX hR; clear Kv) | (with_reducible refine hX _ _ ?_; (try (clear hG; clear Kg)); clear hN hX hR; clear Kv) | (with_reducible refine hR _ ?_; (try (clear hG; clear Kg)); clear hN hX hR; clear Kv) | with_reducible refine body_stop (fun Kv hN hX hR => ?_) | with_reducible refine Stop.mk ?_ | with_reducible refine DrawJ.each ?_ | with_reducible exact SubJ.self _ | with_reducible refine SubJ.of ?_ | with_reducible refine fill2_step (fun Kf hF => ?_) | with_reducible refine fill2_nil ?_ | with_reducible refine node2_step (fun Kg hG => ?_) | (with_reducible refine hF _ _ ?_; clear hF; clear Kf) | (with_reducible refine hG _ _ _ _ ?_; clear hG; clear Kg)))); all_goals (conv => whnf); all_goals (repeat ((try (clear hG; clear Kg)); clear hN hX hR; clear Kv))
       all_goals rfl)
    | (with_reducible intro i hi
       obtain ⟨hi1, hi2, hi3⟩ := hi
       (repeat' (first | ((with_reducible refine body_intro ?_); (first | ((with_reducible refine seq_intro ?_ (fun Kv hN hX hR => ?_)); (next => exact rfl)) | ((with_reducible refine join_intro ?_ (fun Kv hN hX hR => ?_) ?_); (next => exact rfl)) | (conv => whnf))) | with_reducible refine body_stop (fun Kv hN hX hR => ?_) | with_reducible refine Stop.mk ?_ | with_reducible refine DrawJ.each ?_ | with_reducible exact SubJ.self _ | with_reducible refine SubJ.of ?_ | with_reducible refine fill2_step (fun Kf hF => ?_) | with_reducible refine fill2_nil ?_ | with_reducible refine node2_step (fun Kg hG => ?_) | (with_reducible refine hF _ _ ?_; clear hF; clear Kf) | (with_reducible refine hG _ _ _ _ ?_; clear hG; clear Kg) | ((with_reducible refine seq_intro ?_ (fun Kv hN hX hR => ?_)); (next => exact rfl)) | ((with_reducible refine join_intro ?_ (fun Kv hN hX hR => ?_) ?_); (next => exact rfl)) | (with_reducible refine hN _ ?_; (try (clear hG; clear Kg)); clear hN hX hR; clear Kv) | (with_reducible refine hX _ _ ?_; (try (clear hG; clear Kg)); clear hN hX hR; clear Kv) | (with_reducible refine hR _ ?_; (try (clear hG; clear Kg)); clear hN hX hR; clear Kv) | ((conv => whnf); first | with_reducible rfl | with_reducible exact True.intro | with_reducible refine (fun (_ : (_ : Prop)) => ?_) | with_reducible refine And.intro ?_ ?_ | (with_reducible refine hN _ ?_; (try (clear hG; clear Kg)); clear hN hX hR; clear Kv) | (with_reducible refine hX _ _ ?_; (try (clear hG; clear Kg)); clear hN hX hR; clear Kv) | (with_reducible refine hR _ ?_; (try (clear hG; clear Kg)); clear hN hX hR; clear Kv) | with_reducible refine body_stop (fun Kv hN hX hR => ?_) | with_reducible refine Stop.mk ?_ | with_reducible refine DrawJ.each ?_ | with_reducible exact SubJ.self _ | with_reducible refine SubJ.of ?_ | with_reducible refine fill2_step (fun Kf hF => ?_) | with_reducible refine fill2_nil ?_ | with_reducible refine node2_step (fun Kg hG => ?_) | (with_reducible refine hF _ _ ?_; clear hF; clear Kf) | (with_reducible refine hG _ _ _ _ ?_; clear hG; clear Kg)))); all_goals (conv => whnf); all_goals (repeat ((try (clear hG; clear Kg)); clear hN hX hR; clear Kv))
       all_goals (try dsimp only at *)
       all_goals (try simp only [Int.toNat_natCast, etaMsg] at *)
       all_goals first
         | exact Ob.mk ⟨by omega, of_decide_eq_true (by with_reducible assumption)⟩
         | (have e20 : ms.take i = ms.take 20 := by
              first
                | exact take20_all (.inl (of_decide_eq_false (show decide ((i : Int) < (ms.length : Nat)) = false by with_reducible assumption))) hi1 hi2
                | exact take20_all (.inr (of_decide_eq_false (show decide ((i : Int) < 20) = false by with_reducible assumption))) hi1 hi2
            refine ⟨(), by rw [← e20]; exact hi3, ?_⟩
            (repeat' (first | ((with_reducible refine body_intro ?_); (first | ((with_reducible refine seq_intro ?_ (fun Kv hN hX hR => ?_)); (next => exact rfl)) | ((with_reducible refine join_intro ?_ (fun Kv hN hX hR => ?_) ?_); (next => exact rfl)) | (conv => whnf))) | with_reducible refine body_stop (fun Kv hN hX hR => ?_) | with_reducible refine Stop.mk ?_ | with_reducible refine DrawJ.each ?_ | with_reducible exact SubJ.self _ | with_reducible refine SubJ.of ?_ | with_reducible refine fill2_step (fun Kf hF => ?_) | with_reducible refine fill2_nil ?_ | with_reducible refine node2_step (fun Kg hG => ?_) | (with_reducible refine hF _ _ ?_; clear hF; clear Kf) | (with_reducible refine hG _ _ _ _ ?_; clear hG; clear Kg) | ((with_reducible refine seq_intro ?_ (fun Kv hN hX hR => ?_)); (next => exact rfl)) | ((with_reducible refine join_intro ?_ (fun Kv hN hX hR => ?_) ?_); (next => exact rfl)) | (with_reducible refine hN _ ?_; (try (clear hG; clear Kg)); clear hN hX hR; clear Kv) | (with_reducible refine hX _ _ ?_; (try (clear hG; clear Kg)); clear hN hX hR; clear Kv) | (with_reducible refine hR _ ?_; (try (clear hG; clear Kg)); clear hN hX hR; clear Kv) | ((conv => whnf); first | with_reducible rfl | with_reducible exact True.intro | with_reducible intro _ | with_reducible refine And.intro ?_ ?_ | (with_reducible refine hN _ ?_; (try (clear hG; clear Kg)); clear hN hX hR; clear Kv) | (with_reducible refine hX _ _ ?_; (try (clear hG; clear Kg)); clear hN hX hR; clear Kv) | (with_reducible refine hR _ ?_; (try (clear hG; clear Kg)); clear hN hX hR; clear Kv) | with_reducible refine body_stop (fun Kv hN hX hR => ?_) | with_reducible refine Stop.mk ?_ | with_reducible refine DrawJ.each ?_ | with_reducible exact SubJ.self _ | with_reducible refine SubJ.of ?_ | with_reducible refine fill2_step (fun Kf hF => ?_) | with_reducible refine fill2_nil ?_ | with_reducible refine node2_step (fun Kg hG => ?_) | (with_reducible refine hF _ _ ?_; clear hF; clear Kf) | (with_reducible refine hG _ _ _ _ ?_; clear hG; clear Kg)))); all_goals (conv => whnf); all_goals (repeat ((try (clear hG; clear Kg)); clear hN hX hR; clear Kv))
            all_goals first
              | rfl
              | exact congrArg Rw.msgs e20)
         | (have h1 := of_decide_eq_true (show decide ((i : Int) < (ms.length : Nat)) = true by with_reducible assumption)
            have h2 := of_decide_eq_true (show decide ((i : Int) < 20) = true by with_reducible assumption)
            obtain ⟨e1, e2⟩ := add_bad (ms := ms) (i := i) (by omega) (by omega) hi3 (by with_reducible assumption)
            first
              | (rw [e1]; rfl)
              | (exfalso
                 have h3 := of_decide_eq_false (show decide ((((addQ (ms.take i) (ms.getD i default)).1.length : Nat) : Int) = 0) = false by with_reducible assumption)
                 rw [e2] at h3
                 exact h3 rfl))
         | (have h1 := of_decide_eq_true (show decide ((i : Int) < (ms.length : Nat)) = true by with_reducible assumption)
            have h2 := of_decide_eq_true (show decide ((i : Int) < 20) = true by with_reducible assumption)
            obtain ⟨e1, e2⟩ := add_good (ms := ms) (i := i) (by omega) (by omega) hi3 (by with_reducible assumption)
            refine ⟨i + 1, ⟨by omega, by omega, e2⟩, by omega, ?_⟩
            (repeat' (first | ((with_reducible refine body_intro ?_); (first | ((with_reducible refine seq_intro ?_ (fun Kv hN hX hR => ?_)); (next => exact rfl)) | ((with_reducible refine join_intro ?_ (fun Kv hN hX hR => ?_) ?_); (next => exact rfl)) | (conv => whnf))) | with_reducible refine body_stop (fun Kv hN hX hR => ?_) | with_reducible refine Stop.mk ?_ | with_reducible refine DrawJ.each ?_ | with_reducible exact SubJ.self _ | with_reducible refine SubJ.of ?_ | with_reducible refine fill2_step (fun Kf hF => ?_) | with_reducible refine fill2_nil ?_ | with_reducible refine node2_step (fun Kg hG => ?_) | (with_reducible refine hF _ _ ?_; clear hF; clear Kf) | (with_reducible refine hG _ _ _ _ ?_; clear hG; clear Kg) | ((with_reducible refine seq_intro ?_ (fun Kv hN hX hR => ?_)); (next => exact rfl)) | ((with_reducible refine join_intro ?_ (fun Kv hN hX hR => ?_) ?_); (next => exact rfl)) | (with_reducible refine hN _ ?_; (try (clear hG; clear Kg)); clear hN hX hR; clear Kv) | (with_reducible refine hX _ _ ?_; (try (clear hG; clear Kg)); clear hN hX hR; clear Kv) | (with_reducible refine hR _ ?_; (try (clear hG; clear Kg)); clear hN hX hR; clear Kv) | ((conv => whnf); first | with_reducible rfl | with_reducible exact True.intro | with_reducible intro _ | with_reducible refine And.intro ?_ ?_ | (with_reducible refine hN _ ?_; (try (clear hG; clear Kg)); clear hN hX hR; clear Kv) | (with_reducible refine hX _ _ ?_; (try (clear hG; clear Kg)); clear hN hX hR; clear Kv) | (with_reducible refine hR _ ?_; (try (clear hG; clear Kg)); clear hN hX hR; clear Kv) | with_reducible refine body_stop (fun Kv hN hX hR => ?_) | with_reducible refine Stop.mk ?_ | with_reducible refine DrawJ.each ?_ | with_reducible exact SubJ.self _ | with_reducible refine SubJ.of ?_ | with_reducible refine fill2_step (fun Kf hF => ?_) | with_reducible refine fill2_nil ?_ | with_reducible refine node2_step (fun Kg hG => ?_) | (with_reducible refine hF _ _ ?_; clear hF; clear Kf) | (with_reducible refine hG _ _ _ _ ?_; clear hG; clear Kg)))); all_goals (conv => whnf); all_goals (repeat ((try (clear hG; clear Kg)); clear hN hX hR; clear Kv))
            all_goals first
              | exact wrapI (by omega) (by omega)
              | exact congrArg Rw.msgs e1
              | rfl)
         | (trace_state; sorry))
    | (with_reducible intro _ hm
       have hm : (ms.take 20).all mayB = true := hm
       have hx : (ms.take 20).length = min 20 ms.length := List.length_take
       (repeat' (first | ((with_reducible refine body_intro ?_); (first | ((with_reducible refine seq_intro ?_ (fun Kv hN hX hR => ?_)); (next => exact rfl)) | ((with_reducible refine join_intro ?_ (fun Kv hN hX hR => ?_) ?_); (next => exact rfl)) | (conv => whnf))) | with_reducible refine body_stop (fun Kv hN hX hR => ?_) | with_reducible refine Stop.mk ?_ | with_reducible refine DrawJ.each ?_ | with_reducible exact SubJ.self _ | with_reducible refine SubJ.of ?_ | with_reducible refine fill2_step (fun Kf hF => ?_) | with_reducible refine fill2_nil ?_ | with_reducible refine node2_step (fun Kg hG => ?_) | (with_reducible refine hF _ _ ?_; clear hF; clear Kf) | (with_reducible refine hG _ _ _ _ ?_; clear hG; clear Kg) | ((with_reducible refine seq_intro ?_ (fun Kv hN hX hR => ?_)); (next => exact rfl)) | ((with_reducible refine join_intro ?_ (fun Kv hN hX hR => ?_) ?_); (next => exact rfl)) | (with_reducible refine hN _ ?_; (try (clear hG; clear Kg)); clear hN hX hR; clear Kv) | (with_reducible refine hX _ _ ?_; (try (clear hG; clear Kg)); clear hN hX hR; clear Kv) | (with_reducible refine hR _ ?_; (try (clear hG; clear Kg)); clear hN hX hR; clear Kv) | ((conv => whnf); first | with_reducible rfl | with_reducible exact True.intro | with_reducible refine (fun (_ : (_ : Prop)) => ?_) | with_reducible refine And.intro ?_ ?_ | (with_reducible refine hN _ ?_; (try (clear hG; clear Kg)); clear hN hX hR; clear Kv) | (with_reducible refine hX _ _ ?_; (try (clear hG; clear Kg)); clear hN hX hR; clear Kv) | (with_reducible refine hR _ ?_; (try (clear hG; clear Kg)); clear hN hX hR; clear Kv) | with_reducible refine body_stop (fun Kv hN hX hR => ?_) | with_reducible refine Stop.mk ?_ | with_reducible refine DrawJ.each ?_ | with_reducible exact SubJ.self _ | with_reducible refine SubJ.of ?_ | with_reducible refine fill2_step (fun Kf hF => ?_) | with_reducible refine fill2_nil ?_ | with_reducible refine node2_step (fun Kg hG => ?_) | (with_reducible refine hF _ _ ?_; clear hF; clear Kf) | (with_reducible refine hG _ _ _ _ ?_; clear hG; clear Kg)))); all_goals (conv => whnf); all_goals (repeat ((try (clear hG; clear Kg)); clear hN hX hR; clear Kv))
       all_goals first
         | (simp only [decide_eq_true_eq, decide_eq_false_iff_not] at *
            omega)
         | (refine Ob.mk ?_
            simp only [decide_eq_true_eq, decide_eq_false_iff_not] at *
            rw [wu64]
            omega)
         | (have h0 := of_decide_eq_false (show decide (((ms.take 20).length : Int) = 0) = false by with_reducible assumption)
            obtain ⟨k, hk, hkl⟩ := pick_at (x := p) (n := (ms.take 20).length) (by omega) (by omega)
            have ht := takeQ_at (k := k) (queueB_iff.2 ⟨by omega, hm⟩) hkl
            (try simp only [hk, ht, Int.toNat_natCast, etaMsg] at *)
            have hl := left_len hkl
            first
              | exact Ob.mk ⟨by omega, by omega⟩
              | (exfalso
                 have h3 : (!decide ((ms.take 20).getD k default = ms.getD k default)) = true := by with_reducible assumption
                 rw [take20_at hkl] at h3
                 simp at h3
                 done)
              | (exfalso
                 simp only [hl, decide_eq_true_eq, Bool.not_eq_true', decide_eq_false_iff_not] at *
                 rw [wrapI (by omega) (by omega)] at *
                 omega)
              | (refine ⟨0, by omega, ?_⟩
                 (repeat' (first | ((with_reducible refine body_intro ?_); (first | ((with_reducible refine seq_intro ?_ (fun Kv hN hX hR => ?_)); (next => exact rfl)) | ((with_reducible refine join_intro ?_ (fun Kv hN hX hR => ?_) ?_); (next => exact rfl)) | (conv => whnf))) | with_reducible refine body_stop (fun Kv hN hX hR => ?_) | with_reducible refine Stop.mk ?_ | with_reducible refine DrawJ.each ?_ | with_reducible exact SubJ.self _ | with_reducible refine SubJ.of ?_ | with_reducible refine fill2_step (fun Kf hF => ?_) | with_reducible refine fill2_nil ?_ | with_reducible refine node2_step (fun Kg hG => ?_) | (with_reducible refine hF _ _ ?_; clear hF; clear Kf) | (with_reducible refine hG _ _ _ _ ?_; clear hG; clear Kg) | ((with_reducible refine seq_intro ?_ (fun Kv hN hX hR => ?_)); (next => exact rfl)) | ((with_reducible refine join_intro ?_ (fun Kv hN hX hR => ?_) ?_); (next => exact rfl)) | (with_reducible refine hN _ ?_; (try (clear hG; clear Kg)); clear hN hX hR; clear Kv) | (with_reducible refine hX _ _ ?_; (try (clear hG; clear Kg)); clear hN hX hR; clear Kv) | (with_reducible refine hR _ ?_; (try (clear hG; clear Kg)); clear hN hX hR; clear Kv) | ((conv => whnf); first | with_reducible rfl | with_reducible exact True.intro | with_reducible intro _ | with_reducible refine And.intro ?_ ?_ | (with_reducible refine hN _ ?_; (try (clear hG; clear Kg)); clear hN hX hR; clear Kv) | (with_reducible refine hX _ _ ?_; (try (clear hG; clear Kg)); clear hN hX hR; clear Kv) | (with_reducible refine hR _ ?_; (try (clear hG; clear Kg)); clear hN hX hR; clear Kv) | with_reducible refine body_stop (fun Kv hN hX hR => ?_) | with_reducible refine Stop.mk ?_ | with_reducible refine DrawJ.each ?_ | with_reducible exact SubJ.self _ | with_reducible refine SubJ.of ?_ | with_reducible refine fill2_step (fun Kf hF => ?_) | with_reducible refine fill2_nil ?_ | with_reducible refine node2_step (fun Kg hG => ?_) | (with_reducible refine hF _ _ ?_; clear hF; clear Kf) | (with_reducible refine hG _ _ _ _ ?_; clear hG; clear Kg)))); all_goals (conv => whnf); all_goals (repeat ((try (clear hG; clear Kg)); clear hN hX hR; clear Kv))
                 all_goals rfl)
              | (with_reducible intro i hi
                 have w1 : IntKind.i64.wrap ((i : Int) + 1) = ((i + 1 : Nat) : Int) := by rw [wrapI (by omega) (by omega)]; omega
                 (repeat' (first | ((with_reducible refine body_intro ?_); (first | ((with_reducible refine seq_intro ?_ (fun Kv hN hX hR => ?_)); (next => exact rfl)) | ((with_reducible refine join_intro ?_ (fun Kv hN hX hR => ?_) ?_); (next => exact rfl)) | (conv => whnf))) | with_reducible refine body_stop (fun Kv hN hX hR => ?_) | with_reducible refine Stop.mk ?_ | with_reducible refine DrawJ.each ?_ | with_reducible exact SubJ.self _ | with_reducible refine SubJ.of ?_ | with_reducible refine fill2_step (fun Kf hF => ?_) | with_reducible refine fill2_nil ?_ | with_reducible refine node2_step (fun Kg hG => ?_) | (with_reducible refine hF _ _ ?_; clear hF; clear Kf) | (with_reducible refine hG _ _ _ _ ?_; clear hG; clear Kg) | ((with_reducible refine seq_intro ?_ (fun Kv hN hX hR => ?_)); (next => exact rfl)) | ((with_reducible refine join_intro ?_ (fun Kv hN hX hR => ?_) ?_); (next => exact rfl)) | (with_reducible refine hN _ ?_; (try (clear hG; clear Kg)); clear hN hX hR; clear Kv) | (with_reducible refine hX _ _ ?_; (try (clear hG; clear Kg)); clear hN hX hR; clear Kv) | (with_reducible refine hR _ ?_; (try (clear hG; clear Kg)); clear hN hX hR; clear Kv) | ((conv => whnf); first | with_reducible rfl | with_reducible exact True.intro | with_reducible refine (fun (_ : (_ : Prop)) => ?_) | with_reducible refine And.intro ?_ ?_ | (with_reducible refine hN _ ?_; (try (clear hG; clear Kg)); clear hN hX hR; clear Kv) | (with_reducible refine hX _ _ ?_; (try (clear hG; clear Kg)); clear hN hX hR; clear Kv) | (with_reducible refine hR _ ?_; (try (clear hG; clear Kg)); clear hN hX hR; clear Kv) | with_reducible refine body_stop (fun Kv hN hX hR => ?_) | with_reducible refine Stop.mk ?_ | with_reducible refine DrawJ.each ?_ | with_reducible exact SubJ.self _ | with_reducible refine SubJ.of ?_ | with_reducible refine fill2_step (fun Kf hF => ?_) | with_reducible refine fill2_nil ?_ | with_reducible refine node2_step (fun Kg hG => ?_) | (with_reducible refine hF _ _ ?_; clear hF; clear Kf) | (with_reducible refine hG _ _ _ _ ?_; clear hG; clear Kg)))); all_goals (conv => whnf); all_goals (repeat ((try (clear hG; clear Kg)); clear hN hX hR; clear Kv))
                 all_goals (try simp only [hk, ht, hl, w1, Int.toNat_natCast, etaMsg] at *)
                 all_goals first
                   | exact Ob.mk ⟨by omega, of_decide_eq_true (by with_reducible assumption)⟩
                   | (have h1 := of_decide_eq_true (show decide ((i : Int) < (((ms.take 20).length - 1 : Nat) : Int)) = true by with_reducible assumption)
                      have hr := row_left hkl (i := i) (by omega)
                      first
                        | (have h2 := of_decide_eq_true (show decide ((k : Int) ≤ (i : Int)) = true by with_reducible assumption)
                           rw [if_pos (by omega)] at hr
                           first
                             | exact Ob.mk ⟨by omega, by omega⟩
                             | (exfalso
                                have h3 : (!decide (((ms.take 20).take k ++ (ms.take 20).drop (k + 1)).getD i default = ms.getD (i + 1) default)) = true := by with_reducible assumption
                                rw [hr] at h3
                                simp at h3
                                done)
                             | (refine ⟨i + 1, by omega, by omega, ?_⟩
                                (repeat' (first | ((with_reducible refine body_intro ?_); (first | ((with_reducible refine seq_intro ?_ (fun Kv hN hX hR => ?_)); (next => exact rfl)) | ((with_reducible refine join_intro ?_ (fun Kv hN hX hR => ?_) ?_); (next => exact rfl)) | (conv => whnf))) | with_reducible refine body_stop (fun Kv hN hX hR => ?_) | with_reducible refine Stop.mk ?_ | with_reducible refine DrawJ.each ?_ | with_reducible exact SubJ.self _ | with_reducible refine SubJ.of ?_ | with_reducible refine fill2_step (fun Kf hF => ?_) | with_reducible refine fill2_nil ?_ | with_reducible refine node2_step (fun Kg hG => ?_) | (with_reducible refine hF _ _ ?_; clear hF; clear Kf) | (with_reducible refine hG _ _ _ _ ?_; clear hG; clear Kg) | ((with_reducible refine seq_intro ?_ (fun Kv hN hX hR => ?_)); (next => exact rfl)) | ((with_reducible refine join_intro ?_ (fun Kv hN hX hR => ?_) ?_); (next => exact rfl)) | (with_reducible refine hN _ ?_; (try (clear hG; clear Kg)); clear hN hX hR; clear Kv) | (with_reducible refine hX _ _ ?_; (try (clear hG; clear Kg)); clear hN hX hR; clear Kv) | (with_reducible refine hR _ ?_; (try (clear hG; clear Kg)); clear hN hX hR; clear Kv) | ((conv => whnf); first | with_reducible rfl | with_reducible exact True.intro | with_reducible intro _ | with_reducible refine And.intro ?_ ?_ | (with_reducible refine hN _ ?_; (try (clear hG; clear Kg)); clear hN hX hR; clear Kv) | (with_reducible refine hX _ _ ?_; (try (clear hG; clear Kg)); clear hN hX hR; clear Kv) | (with_reducible refine hR _ ?_; (try (clear hG; clear Kg)); clear hN hX hR; clear Kv) | with_reducible refine body_stop (fun Kv hN hX hR => ?_) | with_reducible refine Stop.mk ?_ | with_reducible refine DrawJ.each ?_ | with_reducible exact SubJ.self _ | with_reducible refine SubJ.of ?_ | with_reducible refine fill2_step (fun Kf hF => ?_) | with_reducible refine fill2_nil ?_ | with_reducible refine node2_step (fun Kg hG => ?_) | (with_reducible refine hF _ _ ?_; clear hF; clear Kf) | (with_reducible refine hG _ _ _ _ ?_; clear hG; clear Kg)))); all_goals (conv => whnf); all_goals (repeat ((try (clear hG; clear Kg)); clear hN hX hR; clear Kv))
                                all_goals first
                                  | exact w1
                                  | rfl))
                        | (have h2 := of_decide_eq_false (show decide ((k : Int) ≤ (i : Int)) = false by with_reducible assumption)
                           rw [if_neg (by omega)] at hr
                           first
                             | exact Ob.mk ⟨by omega, by omega⟩
                             | (exfalso
                                have h3 : (!decide (((ms.take 20).take k ++ (ms.take 20).drop (k + 1)).getD i default = ms.getD i default)) = true := by with_reducible assumption
                                rw [hr] at h3
                                simp at h3
                                done)
                             | (refine ⟨i + 1, by omega, by omega, ?_⟩
                                (repeat' (first | ((with_reducible refine body_intro ?_); (first | ((with_reducible refine seq_intro ?_ (fun Kv hN hX hR => ?_)); (next => exact rfl)) | ((with_reducible refine join_intro ?_ (fun Kv hN hX hR => ?_) ?_); (next => exact rfl)) | (conv => whnf))) | with_reducible refine body_stop (fun Kv hN hX hR => ?_) | with_reducible refine Stop.mk ?_ | with_reducible refine DrawJ.each ?_ | with_reducible exact SubJ.self _ | with_reducible refine SubJ.of ?_ | with_reducible refine fill2_step (fun Kf hF => ?_) | with_reducible refine fill2_nil ?_ | with_reducible refine node2_step (fun Kg hG => ?_) | (with_reducible refine hF _ _ ?_; clear hF; clear Kf) | (with_reducible refine hG _ _ _ _ ?_; clear hG; clear Kg) | ((with_reducible refine seq_intro ?_ (fun Kv hN hX hR => ?_)); (next => exact rfl)) | ((with_reducible refine join_intro ?_ (fun Kv hN hX hR => ?_) ?_); (next => exact rfl)) | (with_reducible refine hN _ ?_; (try (clear hG; clear Kg)); clear hN hX hR; clear Kv) | (with_reducible refine hX _ _ ?_; (try (clear hG; clear Kg)); clear hN hX hR; clear Kv) | (with_reducible refine hR _ ?_; (try (clear hG; clear Kg)); clear hN hX hR; clear Kv) | ((conv => whnf); first | with_reducible rfl | with_reducible exact True.intro | with_reducible intro _ | with_reducible refine And.intro ?_ ?_ | (with_reducible refine hN _ ?_; (try (clear hG; clear Kg)); clear hN hX hR; clear Kv) | (with_reducible refine hX _ _ ?_; (try (clear hG; clear Kg)); clear hN hX hR; clear Kv) | (with_reducible refine hR _ ?_; (try (clear hG; clear Kg)); clear hN hX hR; clear Kv) | with_reducible refine body_stop (fun Kv hN hX hR => ?_) | with_reducible refine Stop.mk ?_ | with_reducible refine DrawJ.each ?_ | with_reducible exact SubJ.self _ | with_reducible refine SubJ.of ?_ | with_reducible refine fill2_step (fun Kf hF => ?_) | with_reducible refine fill2_nil ?_ | with_reducible refine node2_step (fun Kg hG => ?_) | (with_reducible refine hF _ _ ?_; clear hF; clear Kf) | (with_reducible refine hG _ _ _ _ ?_; clear hG; clear Kg)))); all_goals (conv => whnf); all_goals (repeat ((try (clear hG; clear Kg)); clear hN hX hR; clear Kv))
                                all_goals first
                                  | exact w1
                                  | rfl)))
                   | trace_state)
              | exact absurd (show (!decide True) = true by with_reducible assumption) (by simp)
              | trace_state)
         | trace_state)
    | skip
end Go.Proofs.Ytmgccphapkmmeaa
