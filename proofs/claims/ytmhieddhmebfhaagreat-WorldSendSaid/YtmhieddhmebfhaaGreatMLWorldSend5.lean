/- A part of the proof of WorldSend: G23d. -/
import Derived.Test.YtmhieddhmebfhaaGreatMLWorldSend4
/- Chapter 23: messages sent in two parts; a message that may be sent. -/
namespace Go.Proofs.YtmhieddhmebfhaaGreat
open Go.RowKit
set_option maxRecDepth 20000
/-- A world, ahead of its packets. -/
def baseB (n : List GNode) (c : List GCut) : Bool := nodesB n && (cutsB c && (n.all (fun x => (namedN x).all (isNd n)) && c.all (fun x => (namedC x).all (isNd n))))
theorem worldB_pk {n : List GNode} {c : List GCut} {l : List GMsg} : worldB ⟨n, c, l⟩ = true ↔ baseB n c = true ∧ l.length ≤ 512 ∧ ∀ m ∈ l, mayB m = true ∧ packB n m = true := by
  rw [worldB_iff, named_split]
  simp only [baseB, Bool.and_eq_true]
  constructor
  · rintro ⟨h1, h2, h3, h4, h5, h6⟩
    obtain ⟨q1, q2⟩ := queueB_iff2.1 h3
    exact ⟨⟨h1, h2, h4, h5⟩, q1, fun m hm => ⟨q2 m hm, List.all_eq_true.1 h6 m hm⟩⟩
  · rintro ⟨⟨h1, h2, h4, h5⟩, q1, q2⟩
    exact ⟨h1, h2, queueB_iff2.2 ⟨q1, fun m hm => (q2 m hm).1⟩, h4, h5, List.all_eq_true.2 fun m hm => (q2 m hm).2⟩
theorem worldB_sub {n : List GNode} {c : List GCut} {l l' : List GMsg} (h : worldB ⟨n, c, l⟩ = true) (hl : l'.length ≤ 512) (hs : ∀ m ∈ l', m ∈ l) : worldB ⟨n, c, l'⟩ = true := by
  obtain ⟨h1, h2, h3⟩ := worldB_pk.1 h
  exact worldB_pk.2 ⟨h1, hl, fun m hm => h3 m (hs m hm)⟩
theorem worldB_app {n : List GNode} {c : List GCut} {p l : List GMsg} (h : worldB ⟨n, c, p⟩ = true) (h2 : worldB ⟨n, c, l⟩ = true) : worldB ⟨n, c, p ++ l.take (512 - p.length)⟩ = true := by
  obtain ⟨a1, a2, a3⟩ := worldB_pk.1 h
  obtain ⟨b1, b2, b3⟩ := worldB_pk.1 h2
  refine worldB_pk.2 ⟨a1, ?_, fun m hm => ?_⟩
  · rw [List.length_append, List.length_take]
    omega
  · rcases List.mem_append.1 hm with hm | hm
    · exact a3 m hm
    · exact b3 m (List.mem_of_mem_take hm)
theorem two_parts {p ms : List GMsg} {k : Nat} (hk : k ≤ ms.length) (hp : p.length ≤ 512) :
    (p ++ (ms.take k).take (512 - p.length)) ++ (ms.drop k).take (512 - (p ++ (ms.take k).take (512 - p.length)).length) = p ++ ms.take (512 - p.length) := by
  rw [List.length_append, List.length_take, List.length_take, List.append_assoc]
  congr 1
  rw [List.take_take]
  by_cases h : k ≤ 512 - p.length
  · rw [Nat.min_eq_right h, show 512 - (p.length + min (512 - p.length) (min k ms.length)) = 512 - p.length - k by omega]
    conv => rhs; rw [show 512 - p.length = k + (512 - p.length - k) by omega, List.take_add]
  · rw [Nat.min_eq_left (by omega), show 512 - (p.length + min (512 - p.length) (min k ms.length)) = 0 by omega]
    simp
theorem pickW {x : Int} {n : Nat} (hn : 0 < n) (hb : n ≤ 100000) : ∃ k : Nat, IntKind.i64.wrap ((IntKind.u64.wrap x).tmod (IntKind.u64.wrap (n : Int))) = (k : Int) ∧ k < n := by
  have h1 : IntKind.u64.wrap (n : Int) = n := by rw [wu64]; omega
  have h2 : 0 ≤ IntKind.u64.wrap x := by rw [wu64]; omega
  rw [h1, tmod_pos h2]
  have h3 := Int.emod_nonneg (IntKind.u64.wrap x) (show (n : Int) ≠ 0 by omega)
  have h4 := Int.emod_lt_of_pos (IntKind.u64.wrap x) (show (0 : Int) < n by omega)
  rw [wrapI (by omega) (by omega)]
  exact ⟨((IntKind.u64.wrap x) % (n : Int)).toNat, by omega, by omega⟩
set_option maxHeartbeats 4000000 in
theorem k_WorldSend : Known Tryz.prog tau 5 (S3 dWorld dMsgs dInt fun w ms c => okB true) := by
  refine known3 hmix tau_ok (ctx_cons k_awake23 (ctx_cons k_worldSend (ctx_cons k_Num (ctx_cons k_SameWorld (ctx_cons k_refWorldMay (ctx_cons k_trio ctx_nil)))))) (fn := Tryz.f5) (by kernel_rfl) [(7, [(0, 0), (1, 0), (2, 0), (3, 6), (4, 9), (5, 16), (6, 32), (7, 32), (8, 0), (9, 383), (10, 1023)]), (8, [(0, 0), (1, 0), (2, 0), (3, 6), (4, 9), (5, 16), (6, 32), (7, 32), (8, 0), (9, 383), (10, 1023)])] (by kernel_rfl) _ _ _ _ fun w ms c hfit => ⟨rfl, [], ?_⟩
  clear hfit
  by_cases hq : worldB w = true ∧ worldB ⟨w.nodes, w.cuts, ms⟩ = true
  · obtain ⟨h1, h2⟩ := hq
    have l1 : w.packets.length ≤ 512 := (worldB_pk.1 h1).2.1
    have l2 : ms.length ≤ 512 := (worldB_pk.1 h2).2.1
    obtain ⟨k, hk, hkl⟩ := pickW (x := c) (n := ms.length + 1) (by omega) (by omega)
    have w1 : IntKind.i64.wrap ((ms.length : Int) + 1) = ((ms.length + 1 : Nat) : Int) := by rw [wrapI (by omega) (by omega)]; omega
    have a0 := sendW_yes h1 h2
    have f1 : worldB ⟨w.nodes, w.cuts, ms.take k⟩ = true := worldB_sub h2 (by rw [List.length_take]; omega) fun m hm => List.mem_of_mem_take hm
    have f2 : worldB ⟨w.nodes, w.cuts, ms.drop k⟩ = true := worldB_sub h2 (by rw [List.length_drop]; omega) fun m hm => List.mem_of_mem_drop hm
    have a1 : sendW w ((ms.take k).drop (Int.toNat 0)) = (⟨w.nodes, w.cuts, w.packets ++ (ms.take k).take (512 - w.packets.length)⟩, 0) := sendW_yes h1 f1
    have f3 := worldB_app h1 f1
    have a2 : sendW ⟨w.nodes, w.cuts, w.packets ++ (ms.take k).take (512 - w.packets.length)⟩ (ms.drop k) = (⟨w.nodes, w.cuts, w.packets ++ ms.take (512 - w.packets.length)⟩, 0) := by
      rw [sendW_yes f3 f2]
      exact congrArg (fun z => ((⟨w.nodes, w.cuts, z⟩ : GWorld), (0 : Int))) (two_parts (by omega) l1)
    have f4 := worldB_app h1 h2
    have a3 : sendW ⟨w.nodes, w.cuts, w.packets ++ (ms.take k).take (512 - w.packets.length)⟩ ((ms.take ms.length).drop k) = (⟨w.nodes, w.cuts, w.packets ++ ms.take (512 - w.packets.length)⟩, 0) := by rw [List.take_length]; exact a2
    (repeat' (first | ((with_reducible refine BdI ?_); (first | ((with_reducible refine SqI ?_ (fun Kv hN hX hR => ?_)); (next => exact rfl)) | ((with_reducible refine JnI ?_ ?_); (next => exact rfl)) | (conv => whnf))) | (with_reducible first | refine BdS (fun Kv hN hX hR => ?_) | refine Stop.mk ?_ | refine Join.mk ⟨fun Kv hN hX hR => ?_, ?_⟩ | refine DrawJ.each ?_ | exact SubJ.self _) | with_reducible refine SubJ.of ?_ | (with_reducible first | refine FlS (fun Kf hF => ?_) | refine FlN ?_ | refine NdS (fun Kg hG => ?_) | (refine hF _ _ ?_; clear hF; clear Kf) | (refine hG _ _ _ _ ?_; clear hG; clear Kg)) | ((with_reducible refine SqI ?_ (fun Kv hN hX hR => ?_)); (next => exact rfl)) | ((with_reducible refine JnI ?_ ?_); (next => exact rfl)) | ((with_reducible first | refine hN _ ?_ | refine hX _ _ ?_ | refine hR _ ?_); (try (clear hG; clear Kg)); clear hN hX hR; clear Kv) | ((conv => whnf); first | (with_reducible first | rfl | exact True.intro | intro _ | refine And.intro ?_ ?_) | ((with_reducible first | refine hN _ ?_ | refine hX _ _ ?_ | refine hR _ ?_); (try (clear hG; clear Kg)); clear hN hX hR; clear Kv) | (with_reducible first | refine BdS (fun Kv hN hX hR => ?_) | refine Stop.mk ?_ | refine Join.mk ⟨fun Kv hN hX hR => ?_, ?_⟩ | refine DrawJ.each ?_ | exact SubJ.self _) | with_reducible refine SubJ.of ?_ | (with_reducible first | refine FlS (fun Kf hF => ?_) | refine FlN ?_ | refine NdS (fun Kg hG => ?_) | (refine hF _ _ ?_; clear hF; clear Kf) | (refine hG _ _ _ _ ?_; clear hG; clear Kg))))); all_goals (conv => whnf); all_goals (repeat ((try (clear hG; clear Kg)); clear hN hX hR; clear Kv))
    all_goals (try simp only [etaWorld, w1, hk, Int.toNat_natCast, a0, a1, a3, f4] at *)
    all_goals first
      | exact absurd (show (!true) = true by with_reducible assumption) (by decide)
      | (refine Ob.mk ?_; decide)
      | exact Ob.mk ⟨by omega, by omega, by omega⟩
      | (refine Ob.mk ?_
         rw [wu64]
         omega)
      | rfl
      | (exfalso; rename_i h; revert h; decide)
      | (exfalso; rename_i h; simp at h; done)
      | trace_state
  · have hs : sendW w ms = (worldZ, 2300) := by rw [sendW_def, if_neg hq]
    (repeat' (first | ((with_reducible refine BdI ?_); (first | ((with_reducible refine SqI ?_ (fun Kv hN hX hR => ?_)); (next => exact rfl)) | ((with_reducible refine JnI ?_ ?_); (next => exact rfl)) | (conv => whnf))) | (with_reducible first | refine BdS (fun Kv hN hX hR => ?_) | refine Stop.mk ?_ | refine Join.mk ⟨fun Kv hN hX hR => ?_, ?_⟩ | refine DrawJ.each ?_ | exact SubJ.self _) | with_reducible refine SubJ.of ?_ | (with_reducible first | refine FlS (fun Kf hF => ?_) | refine FlN ?_ | refine NdS (fun Kg hG => ?_) | (refine hF _ _ ?_; clear hF; clear Kf) | (refine hG _ _ _ _ ?_; clear hG; clear Kg)) | ((with_reducible refine SqI ?_ (fun Kv hN hX hR => ?_)); (next => exact rfl)) | ((with_reducible refine JnI ?_ ?_); (next => exact rfl)) | ((with_reducible first | refine hN _ ?_ | refine hX _ _ ?_ | refine hR _ ?_); (try (clear hG; clear Kg)); clear hN hX hR; clear Kv) | ((conv => whnf); first | (with_reducible first | rfl | exact True.intro | intro _ | refine And.intro ?_ ?_) | ((with_reducible first | refine hN _ ?_ | refine hX _ _ ?_ | refine hR _ ?_); (try (clear hG; clear Kg)); clear hN hX hR; clear Kv) | (with_reducible first | refine BdS (fun Kv hN hX hR => ?_) | refine Stop.mk ?_ | refine Join.mk ⟨fun Kv hN hX hR => ?_, ?_⟩ | refine DrawJ.each ?_ | exact SubJ.self _) | with_reducible refine SubJ.of ?_ | (with_reducible first | refine FlS (fun Kf hF => ?_) | refine FlN ?_ | refine NdS (fun Kg hG => ?_) | (refine hF _ _ ?_; clear hF; clear Kf) | (refine hG _ _ _ _ ?_; clear hG; clear Kg))))); all_goals (conv => whnf); all_goals (repeat ((try (clear hG; clear Kg)); clear hN hX hR; clear Kv))
    all_goals (try simp only [etaWorld, hs] at *)
    all_goals first
      | exact absurd (show (!true) = true by with_reducible assumption) (by decide)
      | exact absurd (show (!decide ((2300 : Int) = 0)) = false by with_reducible assumption) (by decide)
      | (refine Ob.mk ?_; decide)
      | rfl
      | trace_state
end Go.Proofs.YtmhieddhmebfhaaGreat
