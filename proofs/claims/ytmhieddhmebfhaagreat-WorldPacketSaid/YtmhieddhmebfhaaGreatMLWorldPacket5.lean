/- A part of the proof of WorldPacket: G23d. -/
import Derived.Test.YtmhieddhmebfhaaGreatMLWorldPacket4
/- Chapter 23: messages sent in two parts; a message that may be sent. -/
namespace Go.Proofs.YtmhieddhmebfhaaGreat
open Go.RowKit
set_option maxRecDepth 20000
/-- A world, ahead of its packets. -/
def baseB (n : List GNode) (c : List GCut) : Bool := nodesB n && (cutsB c && (n.all (fun x => (namedN x).all (isNd n)) && c.all (fun x => (namedC x).all (isNd n))))
theorem worldB_pk {n : List GNode} {c : List GCut} {l : List GMsg} : worldB ⟨n, c, l⟩ = true ↔ baseB n c = true ∧ l.length ≤ 512 ∧ ∀ m ∈ l, mayB m = true ∧ packB n m = true := by
  rw [worldB_iff, named_split]
  simp only [baseB, Bool.and_eq_true]
  constructor
  · rintro ⟨h1, h2, h3, h4, h5, h6⟩
    obtain ⟨q1, q2⟩ := queueB_iff2.1 h3
    exact ⟨⟨h1, h2, h4, h5⟩, q1, fun m hm => ⟨q2 m hm, List.all_eq_true.1 h6 m hm⟩⟩
  · rintro ⟨⟨h1, h2, h4, h5⟩, q1, q2⟩
    exact ⟨h1, h2, queueB_iff2.2 ⟨q1, fun m hm => (q2 m hm).1⟩, h4, h5, List.all_eq_true.2 fun m hm => (q2 m hm).2⟩
theorem worldB_app {n : List GNode} {c : List GCut} {p l : List GMsg} (h : worldB ⟨n, c, p⟩ = true) (h2 : worldB ⟨n, c, l⟩ = true) : worldB ⟨n, c, p ++ l.take (512 - p.length)⟩ = true := by
  obtain ⟨a1, a2, a3⟩ := worldB_pk.1 h
  obtain ⟨b1, b2, b3⟩ := worldB_pk.1 h2
  refine worldB_pk.2 ⟨a1, ?_, fun m hm => ?_⟩
  · rw [List.length_append, List.length_take]
    omega
  · rcases List.mem_append.1 hm with hm | hm
    · exact a3 m hm
    · exact b3 m (List.mem_of_mem_take hm)
set_option maxHeartbeats 4000000 in
theorem k_WorldPacket : Known Tryz.prog tau 6 (S2 dWorld dMsg fun w m => okB true) := by
  refine known2 hmix tau_ok (ctx_cons k_awake23 (ctx_cons k_worldSend (ctx_cons k_Num (ctx_cons k_SameWorld (ctx_cons k_worldMay (ctx_cons k_refWorldMay (ctx_cons k_SameMsg (ctx_cons k_trio ctx_nil)))))))) (fn := Tryz.f6) (by kernel_rfl) [(6, ((0, 0) :: (1, 1) :: (2, 2) :: (3, 4) :: (4, 12) :: (5, 20) :: (6, 48) :: (7, 64) :: (8, 192) :: (9, 320) :: (10, 576) :: (11, 1088) :: (12, 2048) :: (13, 6144) :: (14, 10240) :: (15, 2048) :: (16, 34816) :: (17, 67584) :: (18, 133120) :: (19, 280576) :: (20, 526336) :: (21, 1048576) :: (22, 3145728) :: (23, 1048576) :: (24, 9437184) :: (25, 17825792) :: (26, 38797312) :: (27, 68157440) :: (28, 1048576) :: (29, 403701760) :: (30, 537921536) :: (31, 1073743936) :: (32, 2147483712) :: (33, 4831838208) :: (34, 8589934592) :: (35, 25769803776) :: (36, 42949672960) :: (37, 77309411328) :: (38, 146028888064) :: (39, 549755813887) :: []))] (by kernel_rfl) _ _ _ fun w m hfit => ⟨rfl, [], ?_⟩
  clear hfit
  by_cases hq : worldB w = true ∧ worldB ⟨w.nodes, w.cuts, [m]⟩ = true
  · obtain ⟨h1, h2⟩ := hq
    have l1 : w.packets.length ≤ 512 := (worldB_pk.1 h1).2.1
    have w1 : IntKind.i64.wrap ((w.packets.length : Int) + 1) = ((w.packets.length + 1 : Nat) : Int) := by rw [wrapI (by omega) (by omega)]; omega
    have a0 : sendW w [m] = _ := sendW_yes h1 h2
    have f4 := worldB_app h1 h2
    have gl : w.packets.length < 512 → (w.packets ++ [m].take (512 - w.packets.length)) = w.packets ++ [m] := fun h => by
      rw [List.take_of_length_le (by simp; omega)]
    have gg : (w.packets ++ [m]).getD w.packets.length default = m := by simp [List.getD_eq_getElem?_getD]
    (repeat' (first | ((with_reducible refine BdI ?_); (first | ((with_reducible refine SqI ?_ (fun Kv hN hX hR => ?_)); (next => exact rfl)) | ((with_reducible refine JnI ?_ ?_); (next => exact rfl)) | (conv => whnf))) | (with_reducible first | refine BdS (fun Kv hN hX hR => ?_) | refine Stop.mk ?_ | refine Join.mk ⟨fun Kv hN hX hR => ?_, ?_⟩ | refine DrawJ.each ?_ | exact SubJ.self _) | with_reducible refine SubJ.of ?_ | (with_reducible first | refine FlS (fun Kf hF => ?_) | refine FlN ?_ | refine NdS (fun Kg hG => ?_) | (refine hF _ _ ?_; clear hF; clear Kf) | (refine hG _ _ _ _ ?_; clear hG; clear Kg)) | ((with_reducible refine SqI ?_ (fun Kv hN hX hR => ?_)); (next => exact rfl)) | ((with_reducible refine JnI ?_ ?_); (next => exact rfl)) | ((with_reducible first | refine hN _ ?_ | refine hX _ _ ?_ | refine hR _ ?_); (try (clear hG; clear Kg)); clear hN hX hR; clear Kv) | ((conv => whnf); first | (with_reducible first | rfl | exact True.intro | intro _ | refine And.intro ?_ ?_) | ((with_reducible first | refine hN _ ?_ | refine hX _ _ ?_ | refine hR _ ?_); (try (clear hG; clear Kg)); clear hN hX hR; clear Kv) | (with_reducible first | refine BdS (fun Kv hN hX hR => ?_) | refine Stop.mk ?_ | refine Join.mk ⟨fun Kv hN hX hR => ?_, ?_⟩ | refine DrawJ.each ?_ | exact SubJ.self _) | with_reducible refine SubJ.of ?_ | (with_reducible first | refine FlS (fun Kf hF => ?_) | refine FlN ?_ | refine NdS (fun Kg hG => ?_) | (refine hF _ _ ?_; clear hF; clear Kf) | (refine hG _ _ _ _ ?_; clear hG; clear Kg))))); all_goals (conv => whnf); all_goals (repeat ((try (clear hG; clear Kg)); clear hN hX hR; clear Kv))
    all_goals (try simp only [etaWorld, etaMsg, w1, Int.toNat_natCast, a0, f4] at *)
    all_goals first
      | exact absurd (show (!true) = true by with_reducible assumption) (by decide)
      | (refine Ob.mk ?_; decide)
      | rfl
      | (have hne := of_decide_eq_false (show decide ((w.packets.length : Int) = 512) = false by with_reducible assumption)
         have hg := gl (by omega)
         (try simp only [hg, gg] at *)
         first
           | exact Ob.mk ⟨by omega, by
              have hl : (w.packets ++ [m]).length = w.packets.length + 1 := by simp
              omega⟩
           | rfl
           | (exfalso; rename_i h; simp at h; done)
           | (simp; done)
           | trace_state)
      | (exfalso; rename_i h; revert h; decide)
      | (exfalso; rename_i h; simp at h; done)
      | trace_state
  · have hs : sendW w [m] = (worldZ, 2300) := by rw [sendW_def, if_neg hq]
    (repeat' (first | ((with_reducible refine BdI ?_); (first | ((with_reducible refine SqI ?_ (fun Kv hN hX hR => ?_)); (next => exact rfl)) | ((with_reducible refine JnI ?_ ?_); (next => exact rfl)) | (conv => whnf))) | (with_reducible first | refine BdS (fun Kv hN hX hR => ?_) | refine Stop.mk ?_ | refine Join.mk ⟨fun Kv hN hX hR => ?_, ?_⟩ | refine DrawJ.each ?_ | exact SubJ.self _) | with_reducible refine SubJ.of ?_ | (with_reducible first | refine FlS (fun Kf hF => ?_) | refine FlN ?_ | refine NdS (fun Kg hG => ?_) | (refine hF _ _ ?_; clear hF; clear Kf) | (refine hG _ _ _ _ ?_; clear hG; clear Kg)) | ((with_reducible refine SqI ?_ (fun Kv hN hX hR => ?_)); (next => exact rfl)) | ((with_reducible refine JnI ?_ ?_); (next => exact rfl)) | ((with_reducible first | refine hN _ ?_ | refine hX _ _ ?_ | refine hR _ ?_); (try (clear hG; clear Kg)); clear hN hX hR; clear Kv) | ((conv => whnf); first | (with_reducible first | rfl | exact True.intro | intro _ | refine And.intro ?_ ?_) | ((with_reducible first | refine hN _ ?_ | refine hX _ _ ?_ | refine hR _ ?_); (try (clear hG; clear Kg)); clear hN hX hR; clear Kv) | (with_reducible first | refine BdS (fun Kv hN hX hR => ?_) | refine Stop.mk ?_ | refine Join.mk ⟨fun Kv hN hX hR => ?_, ?_⟩ | refine DrawJ.each ?_ | exact SubJ.self _) | with_reducible refine SubJ.of ?_ | (with_reducible first | refine FlS (fun Kf hF => ?_) | refine FlN ?_ | refine NdS (fun Kg hG => ?_) | (refine hF _ _ ?_; clear hF; clear Kf) | (refine hG _ _ _ _ ?_; clear hG; clear Kg))))); all_goals (conv => whnf); all_goals (repeat ((try (clear hG; clear Kg)); clear hN hX hR; clear Kv))
    all_goals (try simp only [etaWorld, etaMsg, hs] at *)
    all_goals first
      | exact absurd (show (!true) = true by with_reducible assumption) (by decide)
      | exact absurd (show (!decide ((2300 : Int) = 0)) = false by with_reducible assumption) (by decide)
      | (refine Ob.mk ?_; decide)
      | rfl
      | trace_state
end Go.Proofs.YtmhieddhmebfhaaGreat
