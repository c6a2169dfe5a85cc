/- A part of the proof of TickAlone: G19c. -/
import Derived.Test.YtmhieddhmebfhaaMLTickAlone4
/- Chapter 19: a node that hears nobody. -/
namespace Go.Proofs.Ytmhieddhmebfhaa
open Go.RowKit
set_option maxHeartbeats 4000000 in
theorem k_TickAlone : Known Try.prog tau 5 (S2 dNode dInt fun x t => okB true) := by
  refine known2 hmix tau_ok (ctx_cons k_awake19 (ctx_cons k_tickStep (ctx_cons k_SameNode (ctx_cons k_Num (ctx_cons k_SameItems (ctx_cons k_refNode ctx_nil)))))) (fn := Try.f5) (by kernel_rfl) [] (by kernel_rfl) _ _ _ fun x t hfit => ⟨rfl,
    [(5, invF (Nat × GNode) [] (4 :: 6 :: 7 :: 8 :: 9 :: 13 :: 14 :: 15 :: 16 :: 17 :: 18 :: 19 :: 20 :: 21 :: 22 :: 23 :: 24 :: 25 :: 26 :: 27 :: 28 :: 29 :: 30 :: 31 :: 32 :: 33 :: 34 :: 35 :: 36 :: 37 :: 38 :: 39 :: 40 :: 41 :: 42 :: 43 :: 44 :: 45 :: 46 :: 47 :: 48 :: 49 :: 50 :: 51 :: 52 :: 53 :: []) [5] (fun g => g.1 ≤ 3 + (t % 8).toNat ∧ (g.1 = 0 → g.2 = x) ∧ (0 < g.1 → (x.up && nodeB x) = true ∧ (g.2.up && nodeB g.2) = true ∧ g.2.items = x.items ∧ g.2.view.peers.length + g.2.view.passive.length = x.view.peers.length + x.view.passive.length ∧ ∀ p ∈ g.2.view.peers, (g.1 : Int) ≤ p.missed)) (fun g => match g with
      | (i, ⟨u, ⟨a, p, q⟩, r, l⟩) => fun st => withS [(6, .int .i64 i)] (withB [(5, (30, [.bool u, .int .i64 a, .row .any (.peers p), .row .any (.ints q), .row .any (.items r), .row .any (.tolds l)]))] st)) (fun g => 3 + (t % 8).toNat - g.1))], ?_⟩
  have hp : x.view.peers.length * 16 ≤ 140737488355328 := hfit.1.2.2.1
  have hp2 : x.view.passive.length * 8 ≤ 140737488355328 := hfit.1.2.2.2.1
  clear hfit
  have hw : IntKind.i64.wrap (3 + bits .and .i64 t 7) = 3 + t % 8 := by rw [and7, wrapI (by omega) (by omega)]
  have w1 : IntKind.i64.wrap ((x.view.peers.length : Int) + (x.view.passive.length : Int)) = ((x.view.peers.length + x.view.passive.length : Nat) : Int) := by rw [wrapI (by omega) (by omega)]; omega
  (repeat' (first | ((with_reducible refine body_intro ?_); (first | ((with_reducible refine seq_intro ?_ (fun Kv hN hX hR => ?_)); (next => exact rfl)) | ((with_reducible refine join_intro ?_ ?_); (next => exact rfl)) | (conv => whnf))) | with_reducible refine body_stop (fun Kv hN hX hR => ?_) | with_reducible refine Stop.mk ?_ | with_reducible refine Join.mk ⟨fun Kv hN hX hR => ?_, ?_⟩ | with_reducible refine DrawJ.each ?_ | with_reducible exact SubJ.self _ | with_reducible refine SubJ.of ?_ | with_reducible refine fill2_step (fun Kf hF => ?_) | with_reducible refine fill2_nil ?_ | with_reducible refine node2_step (fun Kg hG => ?_) | (with_reducible refine hF _ _ ?_; clear hF; clear Kf) | (with_reducible refine hG _ _ _ _ ?_; clear hG; clear Kg) | ((with_reducible refine seq_intro ?_ (fun Kv hN hX hR => ?_)); (next => exact rfl)) | ((with_reducible refine join_intro ?_ ?_); (next => exact rfl)) | (with_reducible refine hN _ ?_; (try (clear hG; clear Kg)); clear hN hX hR; clear Kv) | (with_reducible refine hX _ _ ?_; (try (clear hG; clear Kg)); clear hN hX hR; clear Kv) | (with_reducible refine hR _ ?_; (try (clear hG; clear Kg)); clear hN hX hR; clear Kv) | ((conv => whnf); first | with_reducible rfl | with_reducible exact True.intro | with_reducible refine (fun (_ : (_ : Prop)) => ?_) | with_reducible refine And.intro ?_ ?_ | (with_reducible refine hN _ ?_; (try (clear hG; clear Kg)); clear hN hX hR; clear Kv) | (with_reducible refine hX _ _ ?_; (try (clear hG; clear Kg)); clear hN hX hR; clear Kv) | (with_reducible refine hR _ ?_; (try (clear hG; clear Kg)); clear hN hX hR; clear Kv) | with_reducible refine body_stop (fun Kv hN hX hR => ?_) | with_reducible refine Stop.mk ?_ | with_reducible refine Join.mk ⟨fun Kv hN hX hR => ?_, ?_⟩ | with_reducible refine DrawJ.each ?_ | with_reducible exact SubJ.self _ | with_reducible refine SubJ.of ?_ | with_reducible refine fill2_step (fun Kf hF => ?_) | with_reducible refine fill2_nil ?_ | with_reducible refine node2_step (fun Kg hG => ?_) | (with_reducible refine hF _ _ ?_; clear hF; clear Kf) | (with_reducible refine hG _ _ _ _ ?_; clear hG; clear Kg)))); all_goals (conv => whnf); all_goals (repeat ((try (clear hG; clear Kg)); clear hN hX hR; clear Kv))
  all_goals first
    | exact absurd (show (!true) = true by with_reducible assumption) (by decide)
    | (refine ⟨(0, ⟨x.up, ⟨x.view.id, x.view.peers, x.view.passive⟩, x.items, x.log⟩), ⟨by show 0 ≤ _; omega, fun _ => rfl, fun h => absurd h (Nat.lt_irrefl _)⟩, ?_⟩
       (repeat' (first | ((with_reducible refine body_intro ?_); (first | ((with_reducible refine seq_intro ?_ (fun Kv hN hX hR => ?_)); (next => exact rfl)) | ((with_reducible refine join_intro ?_ ?_); (next => exact rfl)) | (conv => whnf))) | with_reducible refine body_stop (fun Kv hN hX hR => ?_) | with_reducible refine Stop.mk ?_ | with_reducible refine Join.mk ⟨fun Kv hN hX hR => ?_, ?_⟩ | with_reducible refine DrawJ.each ?_ | with_reducible exact SubJ.self _ | with_reducible refine SubJ.of ?_ | with_reducible refine fill2_step (fun Kf hF => ?_) | with_reducible refine fill2_nil ?_ | with_reducible refine node2_step (fun Kg hG => ?_) | (with_reducible refine hF _ _ ?_; clear hF; clear Kf) | (with_reducible refine hG _ _ _ _ ?_; clear hG; clear Kg) | ((with_reducible refine seq_intro ?_ (fun Kv hN hX hR => ?_)); (next => exact rfl)) | ((with_reducible refine join_intro ?_ ?_); (next => exact rfl)) | (with_reducible refine hN _ ?_; (try (clear hG; clear Kg)); clear hN hX hR; clear Kv) | (with_reducible refine hX _ _ ?_; (try (clear hG; clear Kg)); clear hN hX hR; clear Kv) | (with_reducible refine hR _ ?_; (try (clear hG; clear Kg)); clear hN hX hR; clear Kv) | ((conv => whnf); first | with_reducible rfl | with_reducible exact True.intro | with_reducible intro _ | with_reducible refine And.intro ?_ ?_ | (with_reducible refine hN _ ?_; (try (clear hG; clear Kg)); clear hN hX hR; clear Kv) | (with_reducible refine hX _ _ ?_; (try (clear hG; clear Kg)); clear hN hX hR; clear Kv) | (with_reducible refine hR _ ?_; (try (clear hG; clear Kg)); clear hN hX hR; clear Kv) | with_reducible refine body_stop (fun Kv hN hX hR => ?_) | with_reducible refine Stop.mk ?_ | with_reducible refine Join.mk ⟨fun Kv hN hX hR => ?_, ?_⟩ | with_reducible refine DrawJ.each ?_ | with_reducible exact SubJ.self _ | with_reducible refine SubJ.of ?_ | with_reducible refine fill2_step (fun Kf hF => ?_) | with_reducible refine fill2_nil ?_ | with_reducible refine node2_step (fun Kg hG => ?_) | (with_reducible refine hF _ _ ?_; clear hF; clear Kf) | (with_reducible refine hG _ _ _ _ ?_; clear hG; clear Kg)))); all_goals (conv => whnf); all_goals (repeat ((try (clear hG; clear Kg)); clear hN hX hR; clear Kv))
       all_goals rfl)
    | (rintro ⟨i, ⟨u, ⟨a, p, q⟩, r, l⟩⟩ ⟨hi, h0, h1⟩
       dsimp only at hi h0 h1
       cases hB : (u && nodeB ⟨u, ⟨a, p, q⟩, r, l⟩) with
       | false =>
         have ht := tickN_no (x := ⟨u, ⟨a, p, q⟩, r, l⟩) hB
         have hi0 : i = 0 := Classical.byContradiction fun h => by
           have := (h1 (by omega)).2.1
           rw [hB] at this
           simp at this
         subst hi0
         (repeat' (first | ((with_reducible refine body_intro ?_); (first | ((with_reducible refine seq_intro ?_ (fun Kv hN hX hR => ?_)); (next => exact rfl)) | ((with_reducible refine join_intro ?_ ?_); (next => exact rfl)) | (conv => whnf))) | with_reducible refine body_stop (fun Kv hN hX hR => ?_) | with_reducible refine Stop.mk ?_ | with_reducible refine Join.mk ⟨fun Kv hN hX hR => ?_, ?_⟩ | with_reducible refine DrawJ.each ?_ | with_reducible exact SubJ.self _ | with_reducible refine SubJ.of ?_ | with_reducible refine fill2_step (fun Kf hF => ?_) | with_reducible refine fill2_nil ?_ | with_reducible refine node2_step (fun Kg hG => ?_) | (with_reducible refine hF _ _ ?_; clear hF; clear Kf) | (with_reducible refine hG _ _ _ _ ?_; clear hG; clear Kg) | ((with_reducible refine seq_intro ?_ (fun Kv hN hX hR => ?_)); (next => exact rfl)) | ((with_reducible refine join_intro ?_ ?_); (next => exact rfl)) | (with_reducible refine hN _ ?_; (try (clear hG; clear Kg)); clear hN hX hR; clear Kv) | (with_reducible refine hX _ _ ?_; (try (clear hG; clear Kg)); clear hN hX hR; clear Kv) | (with_reducible refine hR _ ?_; (try (clear hG; clear Kg)); clear hN hX hR; clear Kv) | ((conv => whnf); first | with_reducible rfl | with_reducible exact True.intro | with_reducible intro _ | with_reducible refine And.intro ?_ ?_ | (with_reducible refine hN _ ?_; (try (clear hG; clear Kg)); clear hN hX hR; clear Kv) | (with_reducible refine hX _ _ ?_; (try (clear hG; clear Kg)); clear hN hX hR; clear Kv) | (with_reducible refine hR _ ?_; (try (clear hG; clear Kg)); clear hN hX hR; clear Kv) | with_reducible refine body_stop (fun Kv hN hX hR => ?_) | with_reducible refine Stop.mk ?_ | with_reducible refine Join.mk ⟨fun Kv hN hX hR => ?_, ?_⟩ | with_reducible refine DrawJ.each ?_ | with_reducible exact SubJ.self _ | with_reducible refine SubJ.of ?_ | with_reducible refine fill2_step (fun Kf hF => ?_) | with_reducible refine fill2_nil ?_ | with_reducible refine node2_step (fun Kg hG => ?_) | (with_reducible refine hF _ _ ?_; clear hF; clear Kf) | (with_reducible refine hG _ _ _ _ ?_; clear hG; clear Kg)))); all_goals (conv => whnf); all_goals (repeat ((try (clear hG; clear Kg)); clear hN hX hR; clear Kv))
         all_goals first
           | (have h3 : (!decide ((tickN ⟨u, ⟨a, p, q⟩, r, l⟩).2.2 = 0)) = false := by with_reducible assumption
              rw [ht] at h3
              exact absurd h3 (by decide))
           | (have h3 : decide (((0 : Nat) : Int) < IntKind.i64.wrap (3 + bits .and .i64 t 7)) = false := by with_reducible assumption
              rw [hw] at h3
              have := of_decide_eq_false h3
              omega)
           | (simp only [ht] at *
              first
                | done
                | rfl
                | (exfalso; rename_i h; revert h; decide))
           | trace_state
       | true =>
         obtain ⟨e1, e2, e3, e4⟩ := tickN_yes (x := ⟨u, ⟨a, p, q⟩, r, l⟩) hB
         have e4 : viewB ⟨a, p, q⟩ = true := e4
         have e3 : u = true := e3
         obtain ⟨t1, t2, t3, t4, t5, t6, t7, _⟩ := tick_ok e4
         have t5l := congrArg List.length t5
         rw [List.length_append, namesP_len] at t5l
         have tot : p.length + q.length = x.view.peers.length + x.view.passive.length ∧ (x.up && nodeB x) = true ∧ r = x.items := by
           rcases Nat.eq_zero_or_pos i with h | h
           · have := h0 h
             rw [← this]
             exact ⟨rfl, hB, rfl⟩
           · have := h1 h
             exact ⟨this.2.2.2.1, this.1, this.2.2.1⟩
         have nop : ∀ j : Nat, 3 ≤ j → j ≤ i → p = [] := fun j h3 hj => by
           cases p with
           | nil => rfl
           | cons y p =>
             have f1 := (h1 (by omega)).2.2.2.2 y List.mem_cons_self
             have f2 := (peerB_iff.1 ((peers_iff.1 (viewB_iff2.1 e4).1).2.2.2 y List.mem_cons_self)).2.2.1
             omega
         have hkeys : ∀ i ∈ r, placeB i.key = true := store_keys (up_view (x := ⟨u, ⟨a, p, q⟩, r, l⟩) hB).2.2.2
         have eN : (tickN ⟨u, ⟨a, p, q⟩, r, l⟩).2.2 = 0 := by rw [e1]
         have eL : p = [] → (tickN ⟨u, ⟨a, p, q⟩, r, l⟩).2.1.length = x.view.peers.length + x.view.passive.length := fun h => by
           have hz : (tickV ⟨a, p, q⟩).1.peers = [] := by rw [t3, h]; rfl
           rw [e1]
           show (helloL _ _ ++ shareL (tickV ⟨a, p, q⟩).1 r).length = _
           rw [shareL_none t1 hz hkeys, List.append_nil, helloL_len, t5l, ← tot.1, ← t7, t3]
         have nb : nodeB ⟨u, ⟨a, p, q⟩, r, l⟩ = true := (Bool.and_eq_true _ _ ▸ hB).2
         (repeat' (first | ((with_reducible refine body_intro ?_); (first | ((with_reducible refine seq_intro ?_ (fun Kv hN hX hR => ?_)); (next => exact rfl)) | ((with_reducible refine join_intro ?_ ?_); (next => exact rfl)) | (conv => whnf))) | with_reducible refine body_stop (fun Kv hN hX hR => ?_) | with_reducible refine Stop.mk ?_ | with_reducible refine Join.mk ⟨fun Kv hN hX hR => ?_, ?_⟩ | with_reducible refine DrawJ.each ?_ | with_reducible exact SubJ.self _ | with_reducible refine SubJ.of ?_ | with_reducible refine fill2_step (fun Kf hF => ?_) | with_reducible refine fill2_nil ?_ | with_reducible refine node2_step (fun Kg hG => ?_) | (with_reducible refine hF _ _ ?_; clear hF; clear Kf) | (with_reducible refine hG _ _ _ _ ?_; clear hG; clear Kg) | ((with_reducible refine seq_intro ?_ (fun Kv hN hX hR => ?_)); (next => exact rfl)) | ((with_reducible refine join_intro ?_ ?_); (next => exact rfl)) | (with_reducible refine hN _ ?_; (try (clear hG; clear Kg)); clear hN hX hR; clear Kv) | (with_reducible refine hX _ _ ?_; (try (clear hG; clear Kg)); clear hN hX hR; clear Kv) | (with_reducible refine hR _ ?_; (try (clear hG; clear Kg)); clear hN hX hR; clear Kv) | ((conv => whnf); first | with_reducible rfl | with_reducible exact True.intro | with_reducible intro _ | with_reducible refine And.intro ?_ ?_ | (with_reducible refine hN _ ?_; (try (clear hG; clear Kg)); clear hN hX hR; clear Kv) | (with_reducible refine hX _ _ ?_; (try (clear hG; clear Kg)); clear hN hX hR; clear Kv) | (with_reducible refine hR _ ?_; (try (clear hG; clear Kg)); clear hN hX hR; clear Kv) | with_reducible refine body_stop (fun Kv hN hX hR => ?_) | with_reducible refine Stop.mk ?_ | with_reducible refine Join.mk ⟨fun Kv hN hX hR => ?_, ?_⟩ | with_reducible refine DrawJ.each ?_ | with_reducible exact SubJ.self _ | with_reducible refine SubJ.of ?_ | with_reducible refine fill2_step (fun Kf hF => ?_) | with_reducible refine fill2_nil ?_ | with_reducible refine node2_step (fun Kg hG => ?_) | (with_reducible refine hF _ _ ?_; clear hF; clear Kf) | (with_reducible refine hG _ _ _ _ ?_; clear hG; clear Kg)))); all_goals (conv => whnf); all_goals (repeat ((try (clear hG; clear Kg)); clear hN hX hR; clear Kv))
         all_goals first
           | (have h3 : (!decide ((tickN ⟨u, ⟨a, p, q⟩, r, l⟩).2.2 = 0)) = true := by with_reducible assumption
              rw [eN] at h3
              exact absurd h3 (by decide))
           | (exfalso
              have h3 := of_decide_eq_true (show decide ((3 : Int) ≤ (i : Int)) = true by with_reducible assumption)
              have h4 : (!decide (((tickN ⟨u, ⟨a, p, q⟩, r, l⟩).2.1.length : Int) = IntKind.i64.wrap ((x.view.peers.length : Int) + (x.view.passive.length : Int)))) = true := by with_reducible assumption
              have h5 := of_decide_eq_false (nf h4)
              apply h5
              rw [w1, eL (nop i (by omega) (Nat.le_refl _))]
              done)
           | (have h3 := of_decide_eq_true (show decide ((i : Int) < IntKind.i64.wrap (3 + bits .and .i64 t 7)) = true by with_reducible assumption)
              rw [hw] at h3
              refine ⟨(i + 1, ⟨(tickN ⟨u, ⟨a, p, q⟩, r, l⟩).1.up, ⟨(tickN ⟨u, ⟨a, p, q⟩, r, l⟩).1.view.id, (tickN ⟨u, ⟨a, p, q⟩, r, l⟩).1.view.peers, (tickN ⟨u, ⟨a, p, q⟩, r, l⟩).1.view.passive⟩, (tickN ⟨u, ⟨a, p, q⟩, r, l⟩).1.items, (tickN ⟨u, ⟨a, p, q⟩, r, l⟩).1.log⟩), ⟨by show i + 1 ≤ _; omega, fun h => absurd h (by show ¬ i + 1 = 0; omega), fun _ => ?_⟩, by show _ - (i + 1) < _ - i; omega, ?_⟩
              · have g1 : (tickN ⟨u, ⟨a, p, q⟩, r, l⟩).1 = ⟨u, (tickV ⟨a, p, q⟩).1, r, l⟩ := by rw [e1]
                refine ⟨tot.2.1, ?_, ?_, ?_, ?_⟩
                · show ((tickN ⟨u, ⟨a, p, q⟩, r, l⟩).1.up && nodeB (tickN ⟨u, ⟨a, p, q⟩, r, l⟩).1) = true
                  rw [g1]
                  show (u && nodeB _) = true
                  rw [show nodeB ⟨u, (tickV ⟨a, p, q⟩).1, r, l⟩ = true from e2, e3]
                  rfl
                · show (tickN ⟨u, ⟨a, p, q⟩, r, l⟩).1.items = _
                  rw [g1]
                  exact tot.2.2
                · show (tickN ⟨u, ⟨a, p, q⟩, r, l⟩).1.view.peers.length + (tickN ⟨u, ⟨a, p, q⟩, r, l⟩).1.view.passive.length = _
                  rw [g1]
                  exact t7.trans tot.1
                · intro y hy
                  have hy : y ∈ (tickN ⟨u, ⟨a, p, q⟩, r, l⟩).1.view.peers := hy
                  rw [g1] at hy
                  have hy : y ∈ (tickV ⟨a, p, q⟩).1.peers := hy
                  rw [t3] at hy
                  obtain ⟨z, hz, _, rfl⟩ := mem_leftP.1 hy
                  show ((i + 1 : Nat) : Int) ≤ z.missed + 1
                  rcases Nat.eq_zero_or_pos i with h | h
                  · have := (peerB_iff.1 ((peers_iff.1 (viewB_iff2.1 e4).1).2.2.2 z hz)).2.1
                    omega
                  · have := (h1 h).2.2.2.2 z hz
                    omega
              · (repeat' (first | ((with_reducible refine body_intro ?_); (first | ((with_reducible refine seq_intro ?_ (fun Kv hN hX hR => ?_)); (next => exact rfl)) | ((with_reducible refine join_intro ?_ ?_); (next => exact rfl)) | (conv => whnf))) | with_reducible refine body_stop (fun Kv hN hX hR => ?_) | with_reducible refine Stop.mk ?_ | with_reducible refine Join.mk ⟨fun Kv hN hX hR => ?_, ?_⟩ | with_reducible refine DrawJ.each ?_ | with_reducible exact SubJ.self _ | with_reducible refine SubJ.of ?_ | with_reducible refine fill2_step (fun Kf hF => ?_) | with_reducible refine fill2_nil ?_ | with_reducible refine node2_step (fun Kg hG => ?_) | (with_reducible refine hF _ _ ?_; clear hF; clear Kf) | (with_reducible refine hG _ _ _ _ ?_; clear hG; clear Kg) | ((with_reducible refine seq_intro ?_ (fun Kv hN hX hR => ?_)); (next => exact rfl)) | ((with_reducible refine join_intro ?_ ?_); (next => exact rfl)) | (with_reducible refine hN _ ?_; (try (clear hG; clear Kg)); clear hN hX hR; clear Kv) | (with_reducible refine hX _ _ ?_; (try (clear hG; clear Kg)); clear hN hX hR; clear Kv) | (with_reducible refine hR _ ?_; (try (clear hG; clear Kg)); clear hN hX hR; clear Kv) | ((conv => whnf); first | with_reducible rfl | with_reducible exact True.intro | with_reducible intro _ | with_reducible refine And.intro ?_ ?_ | (with_reducible refine hN _ ?_; (try (clear hG; clear Kg)); clear hN hX hR; clear Kv) | (with_reducible refine hX _ _ ?_; (try (clear hG; clear Kg)); clear hN hX hR; clear Kv) | (with_reducible refine hR _ ?_; (try (clear hG; clear Kg)); clear hN hX hR; clear Kv) | with_reducible refine body_stop (fun Kv hN hX hR => ?_) | with_reducible refine Stop.mk ?_ | with_reducible refine Join.mk ⟨fun Kv hN hX hR => ?_, ?_⟩ | with_reducible refine DrawJ.each ?_ | with_reducible exact SubJ.self _ | with_reducible refine SubJ.of ?_ | with_reducible refine fill2_step (fun Kf hF => ?_) | with_reducible refine fill2_nil ?_ | with_reducible refine node2_step (fun Kg hG => ?_) | (with_reducible refine hF _ _ ?_; clear hF; clear Kf) | (with_reducible refine hG _ _ _ _ ?_; clear hG; clear Kg)))); all_goals (conv => whnf); all_goals (repeat ((try (clear hG; clear Kg)); clear hN hX hR; clear Kv))
                all_goals first
                  | exact wrapI (by omega) (by omega)
                  | rfl
                  | trace_state)
           | (have h3 := of_decide_eq_false (show decide ((i : Int) < IntKind.i64.wrap (3 + bits .and .i64 t 7)) = false by with_reducible assumption)
              rw [hw] at h3
              have hz : p = [] := nop 3 (by omega) (by omega)
              subst hz
              have tq : (q.length : Int) = ((x.view.peers.length + x.view.passive.length : Nat) : Int) := by
                have := tot.1
                simp at this
                omega
              first
                | exact nb
                | (have h4 : decide ((([] : List GPeer).length : Int) = 0) = false := by with_reducible assumption
                   exact absurd h4 (by decide))
                | (have h4 : decide ((q.length : Int) = IntKind.i64.wrap ((x.view.peers.length : Int) + (x.view.passive.length : Int))) = false := by with_reducible assumption
                   exact absurd (tq.trans w1.symm) (of_decide_eq_false h4))
                | (have h4 : decide (r = x.items) = false := by with_reducible assumption
                   exact absurd tot.2.2 (of_decide_eq_false h4))
                | trace_state)
           | trace_state)
    | trace_state
end Go.Proofs.Ytmhieddhmebfhaa
