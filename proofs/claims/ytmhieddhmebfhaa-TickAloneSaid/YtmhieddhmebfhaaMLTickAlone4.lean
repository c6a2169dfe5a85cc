/- A part of the proof of TickAlone: F16j, VLe, ClPeers, F11a, F11b, F11c, P11, F11d, F19a, ClItems, ClTolds, F19b, F19c, SamePeers, SameItems, SameTolds, G16a, G11a, G19a, P19, G16b, G16c, G16d, G19b. -/
import Derived.Test.YtmhieddhmebfhaaMLTickAlone3
import Derived.Shelf.RegionOpenPlain
import Derived.Lib.Walk
import Derived.Lib.SliceRun
import Derived.Laws.AppendOwn
import Derived.Conc.AppendEvents2
import Derived.Lib.AppendZeros
/- Contracts: a new node: the document's; comparisons. -/
namespace Go.Proofs.Ytmhieddhmebfhaa
open Go.RowKit

set_option maxHeartbeats 2000000 in
theorem k_refNew : Known Try.prog tau 71 (S2 dInt dInts fun id ids => .ok (.tup [.agg (nNew (newN id ids).1), .int .i64 (newN id ids).2]) [.ints (newN id ids).1.view.passive]) := by
  refine known2 hmix tau_ok (ctx_cons k_refPlace (ctx_cons k_refWith ctx_nil)) (fn := Try.f71) (by kernel_rfl) [] (by kernel_rfl) _ _ _ fun id xs hfit => ⟨rfl,
    [(5, invX (Nat × Bool × List Int) (5 :: 6 :: 7 :: 8 :: 9 :: 14 :: 15 :: 16 :: 17 :: 18 :: 19 :: 20 :: 21 :: 22 :: 23 :: 24 :: 25 :: 26 :: 27 :: 28 :: 29 :: 30 :: 31 :: 32 :: 33 :: 34 :: 35 :: 36 :: 37 :: 38 :: []) [32, 50032] (fun g => g.1 ≤ xs.length ∧ newP id [] xs = newP id g.2.2 (xs.drop g.1)) (fun g st => match g.2.2, g.2.1 with
      | [], _ => withS [(7, .int .i64 g.1), (6, .nilS (.ints []))] st
      | y :: ys, false => withS [(7, .int .i64 g.1), (6, .own 32)] (withR [(32, .own (.ints (y :: ys)))] st)
      | y :: ys, true => withS [(7, .int .i64 g.1), (6, .own 50032)] (withR [(50032, .own (.ints (y :: ys)))] st)) (fun g => xs.length - g.1))], ?_⟩
  have hlen : xs.length * 8 ≤ 140737488355328 := hfit.2.1
  clear hfit
  (repeat' (first | ((with_reducible refine body_intro ?_); (first | ((with_reducible refine seq_intro ?_ (fun Kv hN hX hR => ?_)); (next => exact rfl)) | ((with_reducible refine join_intro ?_ ?_); (next => exact rfl)) | (conv => whnf))) | with_reducible refine body_stop (fun Kv hN hX hR => ?_) | with_reducible refine Stop.mk ?_ | with_reducible refine Join.mk ⟨fun Kv hN hX hR => ?_, ?_⟩ | with_reducible refine DrawJ.each ?_ | with_reducible exact SubJ.self _ | with_reducible refine SubJ.of ?_ | with_reducible refine fill2_step (fun Kf hF => ?_) | with_reducible refine fill2_nil ?_ | with_reducible refine node2_step (fun Kg hG => ?_) | (with_reducible refine hF _ _ ?_; clear hF; clear Kf) | (with_reducible refine hG _ _ _ _ ?_; clear hG; clear Kg) | ((with_reducible refine seq_intro ?_ (fun Kv hN hX hR => ?_)); (next => exact rfl)) | ((with_reducible refine join_intro ?_ ?_); (next => exact rfl)) | (with_reducible refine hN _ ?_; (try (clear hG; clear Kg)); clear hN hX hR; clear Kv) | (with_reducible refine hX _ _ ?_; (try (clear hG; clear Kg)); clear hN hX hR; clear Kv) | (with_reducible refine hR _ ?_; (try (clear hG; clear Kg)); clear hN hX hR; clear Kv) | ((conv => whnf); first | with_reducible rfl | with_reducible exact True.intro | with_reducible refine (fun (_ : (_ : Prop)) => ?_) | with_reducible refine And.intro ?_ ?_ | (with_reducible refine hN _ ?_; (try (clear hG; clear Kg)); clear hN hX hR; clear Kv) | (with_reducible refine hX _ _ ?_; (try (clear hG; clear Kg)); clear hN hX hR; clear Kv) | (with_reducible refine hR _ ?_; (try (clear hG; clear Kg)); clear hN hX hR; clear Kv) | with_reducible refine body_stop (fun Kv hN hX hR => ?_) | with_reducible refine Stop.mk ?_ | with_reducible refine Join.mk ⟨fun Kv hN hX hR => ?_, ?_⟩ | with_reducible refine DrawJ.each ?_ | with_reducible exact SubJ.self _ | with_reducible refine SubJ.of ?_ | with_reducible refine fill2_step (fun Kf hF => ?_) | with_reducible refine fill2_nil ?_ | with_reducible refine node2_step (fun Kg hG => ?_) | (with_reducible refine hF _ _ ?_; clear hF; clear Kf) | (with_reducible refine hG _ _ _ _ ?_; clear hG; clear Kg)))); all_goals (conv => whnf); all_goals (repeat ((try (clear hG; clear Kg)); clear hN hX hR; clear Kv))
  all_goals first
    | (rw [newN_no (.inl (nf (show (!placeB id) = true by with_reducible assumption)))] <;> rfl)
    | (refine ⟨(0, false, []), ⟨Nat.zero_le _, rfl⟩, ?_⟩
       (repeat' (first | ((with_reducible refine body_intro ?_); (first | ((with_reducible refine seq_intro ?_ (fun Kv hN hX hR => ?_)); (next => exact rfl)) | ((with_reducible refine join_intro ?_ ?_); (next => exact rfl)) | (conv => whnf))) | with_reducible refine body_stop (fun Kv hN hX hR => ?_) | with_reducible refine Stop.mk ?_ | with_reducible refine Join.mk ⟨fun Kv hN hX hR => ?_, ?_⟩ | with_reducible refine DrawJ.each ?_ | with_reducible exact SubJ.self _ | with_reducible refine SubJ.of ?_ | with_reducible refine fill2_step (fun Kf hF => ?_) | with_reducible refine fill2_nil ?_ | with_reducible refine node2_step (fun Kg hG => ?_) | (with_reducible refine hF _ _ ?_; clear hF; clear Kf) | (with_reducible refine hG _ _ _ _ ?_; clear hG; clear Kg) | ((with_reducible refine seq_intro ?_ (fun Kv hN hX hR => ?_)); (next => exact rfl)) | ((with_reducible refine join_intro ?_ ?_); (next => exact rfl)) | (with_reducible refine hN _ ?_; (try (clear hG; clear Kg)); clear hN hX hR; clear Kv) | (with_reducible refine hX _ _ ?_; (try (clear hG; clear Kg)); clear hN hX hR; clear Kv) | (with_reducible refine hR _ ?_; (try (clear hG; clear Kg)); clear hN hX hR; clear Kv) | ((conv => whnf); first | with_reducible rfl | with_reducible exact True.intro | with_reducible intro _ | with_reducible refine And.intro ?_ ?_ | (with_reducible refine hN _ ?_; (try (clear hG; clear Kg)); clear hN hX hR; clear Kv) | (with_reducible refine hX _ _ ?_; (try (clear hG; clear Kg)); clear hN hX hR; clear Kv) | (with_reducible refine hR _ ?_; (try (clear hG; clear Kg)); clear hN hX hR; clear Kv) | with_reducible refine body_stop (fun Kv hN hX hR => ?_) | with_reducible refine Stop.mk ?_ | with_reducible refine Join.mk ⟨fun Kv hN hX hR => ?_, ?_⟩ | with_reducible refine DrawJ.each ?_ | with_reducible exact SubJ.self _ | with_reducible refine SubJ.of ?_ | with_reducible refine fill2_step (fun Kf hF => ?_) | with_reducible refine fill2_nil ?_ | with_reducible refine node2_step (fun Kg hG => ?_) | (with_reducible refine hF _ _ ?_; clear hF; clear Kf) | (with_reducible refine hG _ _ _ _ ?_; clear hG; clear Kg)))); all_goals (conv => whnf); all_goals (repeat ((try (clear hG; clear Kg)); clear hN hX hR; clear Kv))
       all_goals rfl)
    | (rintro ⟨i, kb, l⟩ ⟨hi, hl⟩
       dsimp only at hi hl
       have hid := nt (show (!placeB id) = false by with_reducible assumption)
       rcases l with _ | ⟨y, l⟩
       rotate_left
       rcases kb with _ | _
       all_goals
         (repeat' (first | ((with_reducible refine body_intro ?_); (first | ((with_reducible refine seq_intro ?_ (fun Kv hN hX hR => ?_)); (next => exact rfl)) | ((with_reducible refine join_intro ?_ ?_); (next => exact rfl)) | (conv => whnf))) | with_reducible refine body_stop (fun Kv hN hX hR => ?_) | with_reducible refine Stop.mk ?_ | with_reducible refine Join.mk ⟨fun Kv hN hX hR => ?_, ?_⟩ | with_reducible refine DrawJ.each ?_ | with_reducible exact SubJ.self _ | with_reducible refine SubJ.of ?_ | with_reducible refine fill2_step (fun Kf hF => ?_) | with_reducible refine fill2_nil ?_ | with_reducible refine node2_step (fun Kg hG => ?_) | (with_reducible refine hF _ _ ?_; clear hF; clear Kf) | (with_reducible refine hG _ _ _ _ ?_; clear hG; clear Kg) | ((with_reducible refine seq_intro ?_ (fun Kv hN hX hR => ?_)); (next => exact rfl)) | ((with_reducible refine join_intro ?_ ?_); (next => exact rfl)) | (with_reducible refine hN _ ?_; (try (clear hG; clear Kg)); clear hN hX hR; clear Kv) | (with_reducible refine hX _ _ ?_; (try (clear hG; clear Kg)); clear hN hX hR; clear Kv) | (with_reducible refine hR _ ?_; (try (clear hG; clear Kg)); clear hN hX hR; clear Kv) | ((conv => whnf); first | with_reducible rfl | with_reducible exact True.intro | with_reducible intro _ | with_reducible refine And.intro ?_ ?_ | (with_reducible refine hN _ ?_; (try (clear hG; clear Kg)); clear hN hX hR; clear Kv) | (with_reducible refine hX _ _ ?_; (try (clear hG; clear Kg)); clear hN hX hR; clear Kv) | (with_reducible refine hR _ ?_; (try (clear hG; clear Kg)); clear hN hX hR; clear Kv) | with_reducible refine body_stop (fun Kv hN hX hR => ?_) | with_reducible refine Stop.mk ?_ | with_reducible refine Join.mk ⟨fun Kv hN hX hR => ?_, ?_⟩ | with_reducible refine DrawJ.each ?_ | with_reducible exact SubJ.self _ | with_reducible refine SubJ.of ?_ | with_reducible refine fill2_step (fun Kf hF => ?_) | with_reducible refine fill2_nil ?_ | with_reducible refine node2_step (fun Kg hG => ?_) | (with_reducible refine hF _ _ ?_; clear hF; clear Kf) | (with_reducible refine hG _ _ _ _ ?_; clear hG; clear Kg)))); all_goals (conv => whnf); all_goals (repeat ((try (clear hG; clear Kg)); clear hN hX hR; clear Kv))
       all_goals (try dsimp only at *)
       all_goals (try simp only [Int.toNat_natCast] at *)
       all_goals first
         | (have h := of_decide_eq_true (show decide ((i : Int) < (xs.length : Nat)) = true by with_reducible assumption)
            first
              | exact Ob.mk ⟨by omega, h⟩
              | (have h2 := of_decide_eq_true (show decide (xs.getD i 0 = id) = true by with_reducible assumption)
                 refine ⟨(i + 1, false, _), ⟨by show i + 1 ≤ xs.length; omega, hl.trans (newP_same (by omega) h2)⟩, by show xs.length - (i + 1) < xs.length - i; omega, ?_⟩
                 (repeat' (first | ((with_reducible refine body_intro ?_); (first | ((with_reducible refine seq_intro ?_ (fun Kv hN hX hR => ?_)); (next => exact rfl)) | ((with_reducible refine join_intro ?_ ?_); (next => exact rfl)) | (conv => whnf))) | with_reducible refine body_stop (fun Kv hN hX hR => ?_) | with_reducible refine Stop.mk ?_ | with_reducible refine Join.mk ⟨fun Kv hN hX hR => ?_, ?_⟩ | with_reducible refine DrawJ.each ?_ | with_reducible exact SubJ.self _ | with_reducible refine SubJ.of ?_ | with_reducible refine fill2_step (fun Kf hF => ?_) | with_reducible refine fill2_nil ?_ | with_reducible refine node2_step (fun Kg hG => ?_) | (with_reducible refine hF _ _ ?_; clear hF; clear Kf) | (with_reducible refine hG _ _ _ _ ?_; clear hG; clear Kg) | ((with_reducible refine seq_intro ?_ (fun Kv hN hX hR => ?_)); (next => exact rfl)) | ((with_reducible refine join_intro ?_ ?_); (next => exact rfl)) | (with_reducible refine hN _ ?_; (try (clear hG; clear Kg)); clear hN hX hR; clear Kv) | (with_reducible refine hX _ _ ?_; (try (clear hG; clear Kg)); clear hN hX hR; clear Kv) | (with_reducible refine hR _ ?_; (try (clear hG; clear Kg)); clear hN hX hR; clear Kv) | ((conv => whnf); first | with_reducible rfl | with_reducible exact True.intro | with_reducible intro _ | with_reducible refine And.intro ?_ ?_ | (with_reducible refine hN _ ?_; (try (clear hG; clear Kg)); clear hN hX hR; clear Kv) | (with_reducible refine hX _ _ ?_; (try (clear hG; clear Kg)); clear hN hX hR; clear Kv) | (with_reducible refine hR _ ?_; (try (clear hG; clear Kg)); clear hN hX hR; clear Kv) | with_reducible refine body_stop (fun Kv hN hX hR => ?_) | with_reducible refine Stop.mk ?_ | with_reducible refine Join.mk ⟨fun Kv hN hX hR => ?_, ?_⟩ | with_reducible refine DrawJ.each ?_ | with_reducible exact SubJ.self _ | with_reducible refine SubJ.of ?_ | with_reducible refine fill2_step (fun Kf hF => ?_) | with_reducible refine fill2_nil ?_ | with_reducible refine node2_step (fun Kg hG => ?_) | (with_reducible refine hF _ _ ?_; clear hF; clear Kf) | (with_reducible refine hG _ _ _ _ ?_; clear hG; clear Kg)))); all_goals (conv => whnf); all_goals (repeat ((try (clear hG; clear Kg)); clear hN hX hR; clear Kv))
                 all_goals first
                   | exact wrapI (by omega) (by omega)
                   | rfl)
              | (have h2 := of_decide_eq_true (show decide (xs.getD i 0 = id) = true by with_reducible assumption)
                 refine ⟨(i + 1, true, _), ⟨by show i + 1 ≤ xs.length; omega, hl.trans (newP_same (by omega) h2)⟩, by show xs.length - (i + 1) < xs.length - i; omega, ?_⟩
                 (repeat' (first | ((with_reducible refine body_intro ?_); (first | ((with_reducible refine seq_intro ?_ (fun Kv hN hX hR => ?_)); (next => exact rfl)) | ((with_reducible refine join_intro ?_ ?_); (next => exact rfl)) | (conv => whnf))) | with_reducible refine body_stop (fun Kv hN hX hR => ?_) | with_reducible refine Stop.mk ?_ | with_reducible refine Join.mk ⟨fun Kv hN hX hR => ?_, ?_⟩ | with_reducible refine DrawJ.each ?_ | with_reducible exact SubJ.self _ | with_reducible refine SubJ.of ?_ | with_reducible refine fill2_step (fun Kf hF => ?_) | with_reducible refine fill2_nil ?_ | with_reducible refine node2_step (fun Kg hG => ?_) | (with_reducible refine hF _ _ ?_; clear hF; clear Kf) | (with_reducible refine hG _ _ _ _ ?_; clear hG; clear Kg) | ((with_reducible refine seq_intro ?_ (fun Kv hN hX hR => ?_)); (next => exact rfl)) | ((with_reducible refine join_intro ?_ ?_); (next => exact rfl)) | (with_reducible refine hN _ ?_; (try (clear hG; clear Kg)); clear hN hX hR; clear Kv) | (with_reducible refine hX _ _ ?_; (try (clear hG; clear Kg)); clear hN hX hR; clear Kv) | (with_reducible refine hR _ ?_; (try (clear hG; clear Kg)); clear hN hX hR; clear Kv) | ((conv => whnf); first | with_reducible rfl | with_reducible exact True.intro | with_reducible intro _ | with_reducible refine And.intro ?_ ?_ | (with_reducible refine hN _ ?_; (try (clear hG; clear Kg)); clear hN hX hR; clear Kv) | (with_reducible refine hX _ _ ?_; (try (clear hG; clear Kg)); clear hN hX hR; clear Kv) | (with_reducible refine hR _ ?_; (try (clear hG; clear Kg)); clear hN hX hR; clear Kv) | with_reducible refine body_stop (fun Kv hN hX hR => ?_) | with_reducible refine Stop.mk ?_ | with_reducible refine Join.mk ⟨fun Kv hN hX hR => ?_, ?_⟩ | with_reducible refine DrawJ.each ?_ | with_reducible exact SubJ.self _ | with_reducible refine SubJ.of ?_ | with_reducible refine fill2_step (fun Kf hF => ?_) | with_reducible refine fill2_nil ?_ | with_reducible refine node2_step (fun Kg hG => ?_) | (with_reducible refine hF _ _ ?_; clear hF; clear Kf) | (with_reducible refine hG _ _ _ _ ?_; clear hG; clear Kg)))); all_goals (conv => whnf); all_goals (repeat ((try (clear hG; clear Kg)); clear hN hX hR; clear Kv))
                 all_goals first
                   | exact wrapI (by omega) (by omega)
                   | rfl)
              | (have h2 := of_decide_eq_false (show decide (xs.getD i 0 = id) = false by with_reducible assumption)
                 have h3 := of_decide_eq_false (nf (b := decide ((withP _ (xs.getD i 0)).2 = 0)) (by with_reducible assumption))
                 rw [newN_no (.inr (hl.trans (newP_bad2 (by omega) h2 h3)))] <;> rfl)
              | (have h2 := of_decide_eq_false (show decide (xs.getD i 0 = id) = false by with_reducible assumption)
                 have h3 := of_decide_eq_true (nt (b := decide ((withP _ (xs.getD i 0)).2 = 0)) (by with_reducible assumption))
                 obtain ⟨y', W, hW, h4⟩ := newP_go (by omega) h2 h3 hl
                 refine ⟨(i + 1, false, y' :: W), ⟨by show i + 1 ≤ xs.length; omega, h4⟩, by show xs.length - (i + 1) < xs.length - i; omega, ?_⟩
                 · (try dsimp only)
                   (repeat' (first | ((with_reducible refine body_intro ?_); (first | ((with_reducible refine seq_intro ?_ (fun Kv hN hX hR => ?_)); (next => exact rfl)) | ((with_reducible refine join_intro ?_ ?_); (next => exact rfl)) | (conv => whnf))) | with_reducible refine body_stop (fun Kv hN hX hR => ?_) | with_reducible refine Stop.mk ?_ | with_reducible refine Join.mk ⟨fun Kv hN hX hR => ?_, ?_⟩ | with_reducible refine DrawJ.each ?_ | with_reducible exact SubJ.self _ | with_reducible refine SubJ.of ?_ | with_reducible refine fill2_step (fun Kf hF => ?_) | with_reducible refine fill2_nil ?_ | with_reducible refine node2_step (fun Kg hG => ?_) | (with_reducible refine hF _ _ ?_; clear hF; clear Kf) | (with_reducible refine hG _ _ _ _ ?_; clear hG; clear Kg) | ((with_reducible refine seq_intro ?_ (fun Kv hN hX hR => ?_)); (next => exact rfl)) | ((with_reducible refine join_intro ?_ ?_); (next => exact rfl)) | (with_reducible refine hN _ ?_; (try (clear hG; clear Kg)); clear hN hX hR; clear Kv) | (with_reducible refine hX _ _ ?_; (try (clear hG; clear Kg)); clear hN hX hR; clear Kv) | (with_reducible refine hR _ ?_; (try (clear hG; clear Kg)); clear hN hX hR; clear Kv) | ((conv => whnf); first | with_reducible rfl | with_reducible exact True.intro | with_reducible intro _ | with_reducible refine And.intro ?_ ?_ | (with_reducible refine hN _ ?_; (try (clear hG; clear Kg)); clear hN hX hR; clear Kv) | (with_reducible refine hX _ _ ?_; (try (clear hG; clear Kg)); clear hN hX hR; clear Kv) | (with_reducible refine hR _ ?_; (try (clear hG; clear Kg)); clear hN hX hR; clear Kv) | with_reducible refine body_stop (fun Kv hN hX hR => ?_) | with_reducible refine Stop.mk ?_ | with_reducible refine Join.mk ⟨fun Kv hN hX hR => ?_, ?_⟩ | with_reducible refine DrawJ.each ?_ | with_reducible exact SubJ.self _ | with_reducible refine SubJ.of ?_ | with_reducible refine fill2_step (fun Kf hF => ?_) | with_reducible refine fill2_nil ?_ | with_reducible refine node2_step (fun Kg hG => ?_) | (with_reducible refine hF _ _ ?_; clear hF; clear Kf) | (with_reducible refine hG _ _ _ _ ?_; clear hG; clear Kg)))); all_goals (conv => whnf); all_goals (repeat ((try (clear hG; clear Kg)); clear hN hX hR; clear Kv))
                   all_goals first
                     | exact wrapI (by omega) (by omega)
                     | exact congrArg Rw.ints hW
                     | exact congrArg Rw.ints hW.symm
                     | rfl)
              | (have h2 := of_decide_eq_false (show decide (xs.getD i 0 = id) = false by with_reducible assumption)
                 have h3 := of_decide_eq_true (nt (b := decide ((withP _ (xs.getD i 0)).2 = 0)) (by with_reducible assumption))
                 obtain ⟨y', W, hW, h4⟩ := newP_go (by omega) h2 h3 hl
                 refine ⟨(i + 1, true, y' :: W), ⟨by show i + 1 ≤ xs.length; omega, h4⟩, by show xs.length - (i + 1) < xs.length - i; omega, ?_⟩
                 · (try dsimp only)
                   (repeat' (first | ((with_reducible refine body_intro ?_); (first | ((with_reducible refine seq_intro ?_ (fun Kv hN hX hR => ?_)); (next => exact rfl)) | ((with_reducible refine join_intro ?_ ?_); (next => exact rfl)) | (conv => whnf))) | with_reducible refine body_stop (fun Kv hN hX hR => ?_) | with_reducible refine Stop.mk ?_ | with_reducible refine Join.mk ⟨fun Kv hN hX hR => ?_, ?_⟩ | with_reducible refine DrawJ.each ?_ | with_reducible exact SubJ.self _ | with_reducible refine SubJ.of ?_ | with_reducible refine fill2_step (fun Kf hF => ?_) | with_reducible refine fill2_nil ?_ | with_reducible refine node2_step (fun Kg hG => ?_) | (with_reducible refine hF _ _ ?_; clear hF; clear Kf) | (with_reducible refine hG _ _ _ _ ?_; clear hG; clear Kg) | ((with_reducible refine seq_intro ?_ (fun Kv hN hX hR => ?_)); (next => exact rfl)) | ((with_reducible refine join_intro ?_ ?_); (next => exact rfl)) | (with_reducible refine hN _ ?_; (try (clear hG; clear Kg)); clear hN hX hR; clear Kv) | (with_reducible refine hX _ _ ?_; (try (clear hG; clear Kg)); clear hN hX hR; clear Kv) | (with_reducible refine hR _ ?_; (try (clear hG; clear Kg)); clear hN hX hR; clear Kv) | ((conv => whnf); first | with_reducible rfl | with_reducible exact True.intro | with_reducible intro _ | with_reducible refine And.intro ?_ ?_ | (with_reducible refine hN _ ?_; (try (clear hG; clear Kg)); clear hN hX hR; clear Kv) | (with_reducible refine hX _ _ ?_; (try (clear hG; clear Kg)); clear hN hX hR; clear Kv) | (with_reducible refine hR _ ?_; (try (clear hG; clear Kg)); clear hN hX hR; clear Kv) | with_reducible refine body_stop (fun Kv hN hX hR => ?_) | with_reducible refine Stop.mk ?_ | with_reducible refine Join.mk ⟨fun Kv hN hX hR => ?_, ?_⟩ | with_reducible refine DrawJ.each ?_ | with_reducible exact SubJ.self _ | with_reducible refine SubJ.of ?_ | with_reducible refine fill2_step (fun Kf hF => ?_) | with_reducible refine fill2_nil ?_ | with_reducible refine node2_step (fun Kg hG => ?_) | (with_reducible refine hF _ _ ?_; clear hF; clear Kf) | (with_reducible refine hG _ _ _ _ ?_; clear hG; clear Kg)))); all_goals (conv => whnf); all_goals (repeat ((try (clear hG; clear Kg)); clear hN hX hR; clear Kv))
                   all_goals first
                     | exact wrapI (by omega) (by omega)
                     | exact congrArg Rw.ints hW
                     | exact congrArg Rw.ints hW.symm
                     | rfl))
         | (have h := of_decide_eq_false (show decide ((i : Int) < (xs.length : Nat)) = false by with_reducible assumption)
            rw [newN_yes hid (hl.trans (newP_end (by omega)))] <;> rfl)
         | trace_state)
    | trace_state
end Go.Proofs.Ytmhieddhmebfhaa

/- A symbolic executor for loaded Go code: the library's Grow of nil. -/
namespace Go.Proofs.Ytmhieddhmebfhaa
open Go.RowKit

section
variable {P : Program} {τ : Tys}
/-- What is known of slices.Grow of nil at one type: its walk. -/
structure GrowW (P : Program) (f : FuncId) (e : TypeId) (sz bts : Nat) : Prop where
  ent : Enters P f
  run : ∀ (n : Nat) (w : World), n * bts ≤ 140737488355328 → Calls P f #[.slice none 0 0, .int .i64 n] w fun x w' => ∃ v', x = .returned v' ∧ w'.ownsRow w.heap.size e sz v' 0 [] ∧ Below w.heap.size w w'
theorem mkEmpty_kd {k : Nat} (h : k < 12) : (mkEmpty k).kd = k := by
  match k, h with
  | 0, _ | 1, _ | 2, _ | 3, _ | 4, _ | 5, _ | 6, _ | 7, _ | 8, _ | 9, _ | 10, _ | 11, _ => rfl
/-- Nil, grown: a row of one's own under key dep + q, without elements. -/
def growT (kd q : Nat) : CallT := fun args s K => match args, s with
  | [.nilS _, .int .i64 n], ⟨fr, stk, bx, rw, dep⟩ => match St.has (own0 (dep + q)) ⟨fr, stk, bx, rw, dep⟩ with
    | false => Ob (0 ≤ n ∧ n * kdBytes kd ≤ 140737488355328) ∧ (0 ≤ n ∧ n * kdBytes kd ≤ 140737488355328 → K (.own (dep + q)) ⟨fr, stk, bx, upd rw (dep + q) (.own (mkEmpty kd)), dep⟩)
    | true => False
  | _, _ => False
theorem grow_tr {f kd : Nat} (q : Nat) (hkd : kd < 12) (hW : GrowW P f (τ.et kd) (kdSz kd) (kdBytes kd)) : TrKnown P τ f (growT kd q) := by
  refine ⟨hW.ent, ?_⟩
  intro w0 E s aS w args vals K hd hargs hT
  obtain ⟨fr, stk, bx, rw', dep⟩ := s
  unfold growT at hT
  split at hT
  rotate_left
  · exact hT.elim
  rename_i r n fr' stk' bx' rw2 dep' hs
  injection hs with e1 e2 e3 e4 e5
  subst e1; subst e2; subst e3; subst e4; subst e5
  obtain ⟨v, vs, rfl, h1, h2⟩ := hargs.inv_cons
  obtain ⟨v2, vs, rfl, h3, h4⟩ := h2.inv_cons
  obtain rfl := h4.inv_nil
  obtain ⟨rfl, hr0⟩ : v = .slice none 0 0 ∧ r.len = 0 := h1
  obtain rfl : v2 = .int .i64 n := h3
  split at hT
  rotate_left
  · exact hT.elim
  rename_i hno
  obtain ⟨hob, hT⟩ := hT
  obtain ⟨hn0, hnb⟩ := hob.out
  obtain ⟨m, rfl⟩ := Int.eq_ofNat_of_zero_le hn0
  have hmb : m * kdBytes kd ≤ 140737488355328 := by
    have : ((m * kdBytes kd : Nat) : Int) ≤ 140737488355328 := by rw [Int.natCast_mul]; exact hnb
    omega
  refine (hW.run m w hmb).mono ?_
  rintro e w' ⟨v', rfl, ho, hB⟩
  have hg : w.grownBy w' none := ⟨hB.os, hB.tape, hB.output, hB.size, fun k hk _ => hB.block k hk⟩
  have hk := mkEmpty_kd hkd
  have hl := len_mkEmpty kd
  refine ⟨v', _, _, E.add (dep + q) v', rfl, hT ⟨hn0, hnb⟩, hd.newRow (dep + q) hno w' hg v' (.own (mkEmpty kd)) (mkEmpty kd).len (mkEmpty kd) rfl [] (fun g hg => ho.lt g hg) ?_ ?_ ?_, rfl, Nat.le_refl _, ?_⟩
  · rw [hl]; simp
  · rw [hk, hl]
    unfold Rw.sz
    rw [hk]
    exact ownsRow_less hd.Mh ho
  · intro i j x hi
    rw [hl] at hi
    omega
  · simp [vd3, vd2, vd1, vd0, lk_upd, Env.add]
end
end Go.Proofs.Ytmhieddhmebfhaa

/- slices.Clone at one type: its walk. -/
namespace Go.Proofs.Ytmhieddhmebfhaa
open Go.RowKit
set_option maxHeartbeats 1000000 in
theorem w_ClonePeers : CloneW Try.prog 89 51 2 16 := by
  obtain ⟨hk10, het, ti, hti, hsz, hby, _⟩ := tau_ok.rk 51 3 (by kernel_rfl)
  obtain ⟨x0, z, g1, g2, g3, g4, g5, g6⟩ := (tau_ok.ti _ ti hti).info
  have g2 : x0.size = 2 := g2.trans hsz
  have g3 : x0.bytes = 16 := g3.trans hby
  have g5 : z.cells.size = 2 := g5.trans hsz
  clear hk10 het g6
  have t22 : Try.prog.underlying 23 = some (.slice 51) := Try.underlying23
  have q22 : ∀ (w : World) (a : Option Addr) (n c n' c' : Nat), (binOp .eql 23 (.slice a n c) (.slice none n' c')).run Try.prog w = .ok (.bool a.isNone) w := fun w a n c n' c' => Lib.run_eql_slice_nil w _ _ a n c n' c' t22
  refine ⟨fnOk_enters (fn := Try.f89) (D := []) (by kernel_rfl) (by kernel_rfl), fun n c w => ?_, fun ad n c news w hl hn hbig hc h1 => ?_⟩
  · go_enter Try.func89, Try.ntmps89
    go_wp2
    go_ret
    exact ⟨rfl, rfl⟩
  · have A : Aside (∀ j u, news[j]? = some u → w.cell? (ad.add j) = some u) := hc
    clear hc
    go_enter Try.func89, Try.ntmps89
    go_wp2_with (at_builtin; refine wpList_append_own _ rfl _ _ 23 rfl w.heap.size 51 x0 z 2 16 t22 g1 g4 g2 g3 g5 (by decide) _ _ _ rfl (World.ownsRow_made w #[] 0 (Nat.le_refl _) (Nat.zero_le _) (by simp)) ad n c news rfl ?qc1 ?qc2 ?qc3 ?qc4 ?qc5 ?qc6 ?_)
    case qc1 => exact hl
    case qc2 =>
      intro j u hj
      exact Lib.cell?_alloc_some _ (A.out j u hj)
    case qc3 => exact h1
    case qc4 => rw [Nat.zero_add]; exact hn
    case qc5 => rw [Nat.zero_add]; exact hbig
    case qc6 => simp
    intro v' w1 hown hgrow hnil
    go_wp2
    go_ret
    refine ⟨v', rfl, by simpa using hown, ?_⟩
    exact ((Below.refl _ w).alloc (Nat.le_refl _) _).grown hgrow (by simp) (by intro k hk; simp [Value.ownBlock] at hk; omega)
theorem k_ClonePeers : Known Try.prog tau 89 (S1 dPeers fun l => .ok (.own 0) [.peers l]) := clone_known dPeers .peers (fun _ => rfl) (fun _ => rfl) (kd := 3) (fun _ => rfl) w_ClonePeers
end Go.Proofs.Ytmhieddhmebfhaa

/- Contracts: Grow of nil, Concat of rows of ints; Ids; Copy of a view. -/
namespace Go.Proofs.Ytmhieddhmebfhaa
open Go.RowKit
set_option maxHeartbeats 4000000 in
set_option maxRecDepth 1000000 in
theorem w_GrowInts : GrowW Try.prog 95 3 1 8 := by
  refine ⟨fnOk_enters (fn := Try.f95) (D := []) (by kernel_rfl) (by kernel_rfl), fun n w hb => ?_⟩
  obtain ⟨hk10, het, ti, hti, hsz, hby, _⟩ := tau_ok.rk 3 0 (by kernel_rfl)
  obtain ⟨x0, z, g1, g2, g3, g4, g5, g6⟩ := (tau_ok.ti _ ti hti).info
  have g2 : x0.size = 1 := g2.trans hsz
  have g3 : x0.bytes = 8 := g3.trans hby
  have g5 : z.cells.size = 1 := g5.trans hsz
  clear hk10 het g6
  have t22 : Try.prog.underlying 24 = some (.slice 3) := Try.underlying24
  have tI : Try.prog.underlying 3 = some (.int .i64) := Try.underlying3
  by_cases h0 : n = 0
  · subst h0
    clear g1 g2 g3 g4 g5 hti hsz hby
    go_enter Try.func95, Try.ntmps95
    go_wp2
    go_ret
    exact ⟨_, rfl, World.ownsRow_nil _ _ _ _, Below.refl _ _⟩
  · have hn0 : 0 < n := by omega
    have hrz : ∀ ty, (Builtin.append_ #[24, 3] ty #[.slice none 0 0, .int .i64 (n : Int)]).run Try.prog w = .ok (.slice (some ⟨w.heap.size, 0, none⟩) n (grownCap w n 0 3)) (w.drew.alloc (.cells (Builtin.zeroCells z.cells n ++ Builtin.zeroCells z.cells (grownCap w n 0 3 - n)) 3)) := fun ty =>
      Lib.run_append_nil_zeros w 24 3 ty 3 x0 z .i64 .i64 t22 tI g1 g4 n hn0 (by rw [g2]; decide) (by omega) (by rw [g3]; omega)
    obtain ⟨G, hG⟩ : ∃ G, G = grownCap w n 0 3 := ⟨_, rfl⟩
    rw [← hG] at hrz
    have hGn : n ≤ G := by rw [hG]; exact grownCap_ge w _ _ _
    have hGm : G ≤ maxLen := by rw [hG]; exact grownCap_le_maxLen w n 0 3 (by unfold maxLen; omega)
    obtain ⟨ROW, hROW⟩ : ∃ ROW : Array Value, ROW = Builtin.zeroCells z.cells n ++ Builtin.zeroCells z.cells (G - n) := ⟨_, rfl⟩
    rw [← hROW] at hrz
    have hRs : ROW.size = G * 1 := by
      rw [hROW]
      simp [Builtin.zeroCells, g5]
      omega
    have hnz : ¬ ((n : Int) < 0) := by omega
    have hw0 : IntKind.i64.wrap ((n : Int) - 0) = n := wrapI (by omega) (by omega)
    have hpos : (0 : Int) < (n : Int) := by omega
    have hGi : (0 : Int) ≤ (G : Int) := by omega
    clear g1 g2 g3 g4 g5 hti hsz hby hG hROW
    go_enter Try.func95, Try.ntmps95
    go_wp2_with (at_builtin; refine Lib.wpList_append_run _ rfl _ _ _ _ rfl _ _ rfl rfl _ _ (hrz _) ?_)
    go_wp2
    go_ret
    refine ⟨.slice (some ⟨w.heap.size, 0, none⟩) 0 G, rfl, ⟨rfl, .inr ⟨w.heap.size, G, ROW, rfl, Nat.le_refl _, ?_, Nat.zero_le _, hGm, hRs, by simp⟩⟩, ?_⟩
    · exact Array.getElem?_push_size
    · exact ((Below.refl _ w).drew).alloc (Nat.le_refl _) _
theorem t_GrowInts : TrKnown Try.prog tau 95 (growT 0 24) := grow_tr 24 (by decide) w_GrowInts
theorem flat_succ {l : List (List Int)} {i : Nat} (h : i < l.length) : (l.take (i + 1)).flatten = (l.take i).flatten ++ l.getD i [] := by
  rw [List.take_succ_eq_append_getElem h, List.flatten_append]
  simp [List.getD_eq_getElem?_getD, h]
theorem flat_le (l : List (List Int)) (i : Nat) : (l.take i).flatten.length ≤ l.flatten.length := by
  conv => rhs; rw [← List.take_append_drop i l, List.flatten_append, List.length_append]
  omega
theorem k_Concat : Known Try.prog tau 62 (S1 dIntss fun l => .ob (l.flatten.length * 8 ≤ 140737488355328) (.own 0) [.ints l.flatten]) := by
  refine knownX1 hmix tau_ok (fn := Try.f62) (by kernel_rfl) [] (by kernel_rfl) _ _ fun l hfit hs => ⟨rfl, _, ctx_tr t_GrowInts ctx_nil,
    [(3, invN [3, 5, 11, 12, 13, 14, 15, 16, 17, 18, 19, 20, 21, 22] (fun i => i ≤ l.length) (fun i => withS [(11, .int .i64 i), (3, .int .i64 (l.take i).flatten.length)]) (fun i => l.length - i)),
     (11, invX Nat (24 :: [6, 8, 27, 28, 29, 30, 31, 32, 33, 34]) [] (fun i => i ≤ l.length) (fun i => fun st => withS [(27, .int .i64 i), (6, .own 24)] (withR [(24, .own (.ints (l.take i).flatten))] st)) (fun i => l.length - i))], ?_⟩
  have hlen : l.length * 24 ≤ 140737488355328 := hfit.1.1
  clear hfit
  (repeat' (first | ((with_reducible refine body_intro ?_); (first | ((with_reducible refine seq_intro ?_ (fun Kv hN hX hR => ?_)); (next => exact rfl)) | ((with_reducible refine join_intro ?_ ?_); (next => exact rfl)) | (conv => whnf))) | with_reducible refine body_stop (fun Kv hN hX hR => ?_) | with_reducible refine Stop.mk ?_ | with_reducible refine Join.mk ⟨fun Kv hN hX hR => ?_, ?_⟩ | with_reducible refine DrawJ.each ?_ | with_reducible exact SubJ.self _ | with_reducible refine SubJ.of ?_ | with_reducible refine fill2_step (fun Kf hF => ?_) | with_reducible refine fill2_nil ?_ | with_reducible refine node2_step (fun Kg hG => ?_) | (with_reducible refine hF _ _ ?_; clear hF; clear Kf) | (with_reducible refine hG _ _ _ _ ?_; clear hG; clear Kg) | ((with_reducible refine seq_intro ?_ (fun Kv hN hX hR => ?_)); (next => exact rfl)) | ((with_reducible refine join_intro ?_ ?_); (next => exact rfl)) | (with_reducible refine hN _ ?_; (try (clear hG; clear Kg)); clear hN hX hR; clear Kv) | (with_reducible refine hX _ _ ?_; (try (clear hG; clear Kg)); clear hN hX hR; clear Kv) | (with_reducible refine hR _ ?_; (try (clear hG; clear Kg)); clear hN hX hR; clear Kv) | ((conv => whnf); first | with_reducible rfl | with_reducible exact True.intro | with_reducible refine (fun (_ : (_ : Prop)) => ?_) | with_reducible refine And.intro ?_ ?_ | (with_reducible refine hN _ ?_; (try (clear hG; clear Kg)); clear hN hX hR; clear Kv) | (with_reducible refine hX _ _ ?_; (try (clear hG; clear Kg)); clear hN hX hR; clear Kv) | (with_reducible refine hR _ ?_; (try (clear hG; clear Kg)); clear hN hX hR; clear Kv) | with_reducible refine body_stop (fun Kv hN hX hR => ?_) | with_reducible refine Stop.mk ?_ | with_reducible refine Join.mk ⟨fun Kv hN hX hR => ?_, ?_⟩ | with_reducible refine DrawJ.each ?_ | with_reducible exact SubJ.self _ | with_reducible refine SubJ.of ?_ | with_reducible refine fill2_step (fun Kf hF => ?_) | with_reducible refine fill2_nil ?_ | with_reducible refine node2_step (fun Kg hG => ?_) | (with_reducible refine hF _ _ ?_; clear hF; clear Kf) | (with_reducible refine hG _ _ _ _ ?_; clear hG; clear Kg)))); all_goals (conv => whnf); all_goals (repeat ((try (clear hG; clear Kg)); clear hN hX hR; clear Kv))
  all_goals first
    | (refine ⟨0, Nat.zero_le _, ?_⟩
       (repeat' (first | ((with_reducible refine body_intro ?_); (first | ((with_reducible refine seq_intro ?_ (fun Kv hN hX hR => ?_)); (next => exact rfl)) | ((with_reducible refine join_intro ?_ ?_); (next => exact rfl)) | (conv => whnf))) | with_reducible refine body_stop (fun Kv hN hX hR => ?_) | with_reducible refine Stop.mk ?_ | with_reducible refine Join.mk ⟨fun Kv hN hX hR => ?_, ?_⟩ | with_reducible refine DrawJ.each ?_ | with_reducible exact SubJ.self _ | with_reducible refine SubJ.of ?_ | with_reducible refine fill2_step (fun Kf hF => ?_) | with_reducible refine fill2_nil ?_ | with_reducible refine node2_step (fun Kg hG => ?_) | (with_reducible refine hF _ _ ?_; clear hF; clear Kf) | (with_reducible refine hG _ _ _ _ ?_; clear hG; clear Kg) | ((with_reducible refine seq_intro ?_ (fun Kv hN hX hR => ?_)); (next => exact rfl)) | ((with_reducible refine join_intro ?_ ?_); (next => exact rfl)) | (with_reducible refine hN _ ?_; (try (clear hG; clear Kg)); clear hN hX hR; clear Kv) | (with_reducible refine hX _ _ ?_; (try (clear hG; clear Kg)); clear hN hX hR; clear Kv) | (with_reducible refine hR _ ?_; (try (clear hG; clear Kg)); clear hN hX hR; clear Kv) | ((conv => whnf); first | with_reducible rfl | with_reducible exact True.intro | with_reducible intro _ | with_reducible refine And.intro ?_ ?_ | (with_reducible refine hN _ ?_; (try (clear hG; clear Kg)); clear hN hX hR; clear Kv) | (with_reducible refine hX _ _ ?_; (try (clear hG; clear Kg)); clear hN hX hR; clear Kv) | (with_reducible refine hR _ ?_; (try (clear hG; clear Kg)); clear hN hX hR; clear Kv) | with_reducible refine body_stop (fun Kv hN hX hR => ?_) | with_reducible refine Stop.mk ?_ | with_reducible refine Join.mk ⟨fun Kv hN hX hR => ?_, ?_⟩ | with_reducible refine DrawJ.each ?_ | with_reducible exact SubJ.self _ | with_reducible refine SubJ.of ?_ | with_reducible refine fill2_step (fun Kf hF => ?_) | with_reducible refine fill2_nil ?_ | with_reducible refine node2_step (fun Kg hG => ?_) | (with_reducible refine hF _ _ ?_; clear hF; clear Kf) | (with_reducible refine hG _ _ _ _ ?_; clear hG; clear Kg)))); all_goals (conv => whnf); all_goals (repeat ((try (clear hG; clear Kg)); clear hN hX hR; clear Kv))
       all_goals rfl)
    | (with_reducible intro i hi
       have hi : i ≤ l.length := hi
       have f1 := flat_le l i
       have f2 := flat_le l (i + 1)
       (repeat' (first | ((with_reducible refine body_intro ?_); (first | ((with_reducible refine seq_intro ?_ (fun Kv hN hX hR => ?_)); (next => exact rfl)) | ((with_reducible refine join_intro ?_ ?_); (next => exact rfl)) | (conv => whnf))) | with_reducible refine body_stop (fun Kv hN hX hR => ?_) | with_reducible refine Stop.mk ?_ | with_reducible refine Join.mk ⟨fun Kv hN hX hR => ?_, ?_⟩ | with_reducible refine DrawJ.each ?_ | with_reducible exact SubJ.self _ | with_reducible refine SubJ.of ?_ | with_reducible refine fill2_step (fun Kf hF => ?_) | with_reducible refine fill2_nil ?_ | with_reducible refine node2_step (fun Kg hG => ?_) | (with_reducible refine hF _ _ ?_; clear hF; clear Kf) | (with_reducible refine hG _ _ _ _ ?_; clear hG; clear Kg) | ((with_reducible refine seq_intro ?_ (fun Kv hN hX hR => ?_)); (next => exact rfl)) | ((with_reducible refine join_intro ?_ ?_); (next => exact rfl)) | (with_reducible refine hN _ ?_; (try (clear hG; clear Kg)); clear hN hX hR; clear Kv) | (with_reducible refine hX _ _ ?_; (try (clear hG; clear Kg)); clear hN hX hR; clear Kv) | (with_reducible refine hR _ ?_; (try (clear hG; clear Kg)); clear hN hX hR; clear Kv) | ((conv => whnf); first | with_reducible rfl | with_reducible exact True.intro | with_reducible refine (fun (_ : (_ : Prop)) => ?_) | with_reducible refine And.intro ?_ ?_ | (with_reducible refine hN _ ?_; (try (clear hG; clear Kg)); clear hN hX hR; clear Kv) | (with_reducible refine hX _ _ ?_; (try (clear hG; clear Kg)); clear hN hX hR; clear Kv) | (with_reducible refine hR _ ?_; (try (clear hG; clear Kg)); clear hN hX hR; clear Kv) | with_reducible refine body_stop (fun Kv hN hX hR => ?_) | with_reducible refine Stop.mk ?_ | with_reducible refine Join.mk ⟨fun Kv hN hX hR => ?_, ?_⟩ | with_reducible refine DrawJ.each ?_ | with_reducible exact SubJ.self _ | with_reducible refine SubJ.of ?_ | with_reducible refine fill2_step (fun Kf hF => ?_) | with_reducible refine fill2_nil ?_ | with_reducible refine node2_step (fun Kg hG => ?_) | (with_reducible refine hF _ _ ?_; clear hF; clear Kf) | (with_reducible refine hG _ _ _ _ ?_; clear hG; clear Kg)))); all_goals (conv => whnf); all_goals (repeat ((try (clear hG; clear Kg)); clear hN hX hR; clear Kv))
       all_goals (try simp only [Int.toNat_natCast] at *)
       all_goals first
         | exact Ob.mk ⟨by omega, of_decide_eq_true (by with_reducible assumption)⟩
         | (have h := of_decide_eq_true (show decide ((i : Int) < (l.length : Nat)) = true by with_reducible assumption)
            have e1 := congrArg List.length (flat_succ (l := l) (i := i) (by omega))
            rw [List.length_append] at e1
            have w1 : IntKind.i64.wrap (((l.take i).flatten.length : Int) + ((l.getD i []).length : Int)) = ((l.take (i + 1)).flatten.length : Int) := by
              rw [wrapI (by omega) (by omega), e1]
              omega
            first
              | (exfalso
                 have h3 := of_decide_eq_true (show decide (IntKind.i64.wrap (((l.take i).flatten.length : Int) + ((l.getD i []).length : Int)) < 0) = true by with_reducible assumption)
                 rw [w1] at h3
                 omega)
              | (refine ⟨i + 1, by omega, by omega, ?_⟩
                 (repeat' (first | ((with_reducible refine body_intro ?_); (first | ((with_reducible refine seq_intro ?_ (fun Kv hN hX hR => ?_)); (next => exact rfl)) | ((with_reducible refine join_intro ?_ ?_); (next => exact rfl)) | (conv => whnf))) | with_reducible refine body_stop (fun Kv hN hX hR => ?_) | with_reducible refine Stop.mk ?_ | with_reducible refine Join.mk ⟨fun Kv hN hX hR => ?_, ?_⟩ | with_reducible refine DrawJ.each ?_ | with_reducible exact SubJ.self _ | with_reducible refine SubJ.of ?_ | with_reducible refine fill2_step (fun Kf hF => ?_) | with_reducible refine fill2_nil ?_ | with_reducible refine node2_step (fun Kg hG => ?_) | (with_reducible refine hF _ _ ?_; clear hF; clear Kf) | (with_reducible refine hG _ _ _ _ ?_; clear hG; clear Kg) | ((with_reducible refine seq_intro ?_ (fun Kv hN hX hR => ?_)); (next => exact rfl)) | ((with_reducible refine join_intro ?_ ?_); (next => exact rfl)) | (with_reducible refine hN _ ?_; (try (clear hG; clear Kg)); clear hN hX hR; clear Kv) | (with_reducible refine hX _ _ ?_; (try (clear hG; clear Kg)); clear hN hX hR; clear Kv) | (with_reducible refine hR _ ?_; (try (clear hG; clear Kg)); clear hN hX hR; clear Kv) | ((conv => whnf); first | with_reducible rfl | with_reducible exact True.intro | with_reducible intro _ | with_reducible refine And.intro ?_ ?_ | (with_reducible refine hN _ ?_; (try (clear hG; clear Kg)); clear hN hX hR; clear Kv) | (with_reducible refine hX _ _ ?_; (try (clear hG; clear Kg)); clear hN hX hR; clear Kv) | (with_reducible refine hR _ ?_; (try (clear hG; clear Kg)); clear hN hX hR; clear Kv) | with_reducible refine body_stop (fun Kv hN hX hR => ?_) | with_reducible refine Stop.mk ?_ | with_reducible refine Join.mk ⟨fun Kv hN hX hR => ?_, ?_⟩ | with_reducible refine DrawJ.each ?_ | with_reducible exact SubJ.self _ | with_reducible refine SubJ.of ?_ | with_reducible refine fill2_step (fun Kf hF => ?_) | with_reducible refine fill2_nil ?_ | with_reducible refine node2_step (fun Kg hG => ?_) | (with_reducible refine hF _ _ ?_; clear hF; clear Kf) | (with_reducible refine hG _ _ _ _ ?_; clear hG; clear Kg)))); all_goals (conv => whnf); all_goals (repeat ((try (clear hG; clear Kg)); clear hN hX hR; clear Kv))
                 all_goals first
                   | exact wrapI (by omega) (by omega)
                   | exact w1
                   | rfl))
         | (have h := of_decide_eq_false (show decide ((i : Int) < (l.length : Nat)) = false by with_reducible assumption)
            have e0 : (l.take i).flatten = l.flatten := by rw [List.take_of_length_le (by omega)]
            first
              | (refine Ob.mk ⟨by omega, ?_⟩
                 simp only [kdBytes]
                 omega)
              | (refine ⟨0, Nat.zero_le _, ?_⟩
                 (repeat' (first | ((with_reducible refine body_intro ?_); (first | ((with_reducible refine seq_intro ?_ (fun Kv hN hX hR => ?_)); (next => exact rfl)) | ((with_reducible refine join_intro ?_ ?_); (next => exact rfl)) | (conv => whnf))) | with_reducible refine body_stop (fun Kv hN hX hR => ?_) | with_reducible refine Stop.mk ?_ | with_reducible refine Join.mk ⟨fun Kv hN hX hR => ?_, ?_⟩ | with_reducible refine DrawJ.each ?_ | with_reducible exact SubJ.self _ | with_reducible refine SubJ.of ?_ | with_reducible refine fill2_step (fun Kf hF => ?_) | with_reducible refine fill2_nil ?_ | with_reducible refine node2_step (fun Kg hG => ?_) | (with_reducible refine hF _ _ ?_; clear hF; clear Kf) | (with_reducible refine hG _ _ _ _ ?_; clear hG; clear Kg) | ((with_reducible refine seq_intro ?_ (fun Kv hN hX hR => ?_)); (next => exact rfl)) | ((with_reducible refine join_intro ?_ ?_); (next => exact rfl)) | (with_reducible refine hN _ ?_; (try (clear hG; clear Kg)); clear hN hX hR; clear Kv) | (with_reducible refine hX _ _ ?_; (try (clear hG; clear Kg)); clear hN hX hR; clear Kv) | (with_reducible refine hR _ ?_; (try (clear hG; clear Kg)); clear hN hX hR; clear Kv) | ((conv => whnf); first | with_reducible rfl | with_reducible exact True.intro | with_reducible intro _ | with_reducible refine And.intro ?_ ?_ | (with_reducible refine hN _ ?_; (try (clear hG; clear Kg)); clear hN hX hR; clear Kv) | (with_reducible refine hX _ _ ?_; (try (clear hG; clear Kg)); clear hN hX hR; clear Kv) | (with_reducible refine hR _ ?_; (try (clear hG; clear Kg)); clear hN hX hR; clear Kv) | with_reducible refine body_stop (fun Kv hN hX hR => ?_) | with_reducible refine Stop.mk ?_ | with_reducible refine Join.mk ⟨fun Kv hN hX hR => ?_, ?_⟩ | with_reducible refine DrawJ.each ?_ | with_reducible exact SubJ.self _ | with_reducible refine SubJ.of ?_ | with_reducible refine fill2_step (fun Kf hF => ?_) | with_reducible refine fill2_nil ?_ | with_reducible refine node2_step (fun Kg hG => ?_) | (with_reducible refine hF _ _ ?_; clear hF; clear Kf) | (with_reducible refine hG _ _ _ _ ?_; clear hG; clear Kg)))); all_goals (conv => whnf); all_goals (repeat ((try (clear hG; clear Kg)); clear hN hX hR; clear Kv))
                 all_goals rfl)
              | (with_reducible intro j hj
                 have hj : j ≤ l.length := hj
                 have f3 := flat_le l j
                 have f4 := flat_le l (j + 1)
                 (repeat' (first | ((with_reducible refine body_intro ?_); (first | ((with_reducible refine seq_intro ?_ (fun Kv hN hX hR => ?_)); (next => exact rfl)) | ((with_reducible refine join_intro ?_ ?_); (next => exact rfl)) | (conv => whnf))) | with_reducible refine body_stop (fun Kv hN hX hR => ?_) | with_reducible refine Stop.mk ?_ | with_reducible refine Join.mk ⟨fun Kv hN hX hR => ?_, ?_⟩ | with_reducible refine DrawJ.each ?_ | with_reducible exact SubJ.self _ | with_reducible refine SubJ.of ?_ | with_reducible refine fill2_step (fun Kf hF => ?_) | with_reducible refine fill2_nil ?_ | with_reducible refine node2_step (fun Kg hG => ?_) | (with_reducible refine hF _ _ ?_; clear hF; clear Kf) | (with_reducible refine hG _ _ _ _ ?_; clear hG; clear Kg) | ((with_reducible refine seq_intro ?_ (fun Kv hN hX hR => ?_)); (next => exact rfl)) | ((with_reducible refine join_intro ?_ ?_); (next => exact rfl)) | (with_reducible refine hN _ ?_; (try (clear hG; clear Kg)); clear hN hX hR; clear Kv) | (with_reducible refine hX _ _ ?_; (try (clear hG; clear Kg)); clear hN hX hR; clear Kv) | (with_reducible refine hR _ ?_; (try (clear hG; clear Kg)); clear hN hX hR; clear Kv) | ((conv => whnf); first | with_reducible rfl | with_reducible exact True.intro | with_reducible intro _ | with_reducible refine And.intro ?_ ?_ | (with_reducible refine hN _ ?_; (try (clear hG; clear Kg)); clear hN hX hR; clear Kv) | (with_reducible refine hX _ _ ?_; (try (clear hG; clear Kg)); clear hN hX hR; clear Kv) | (with_reducible refine hR _ ?_; (try (clear hG; clear Kg)); clear hN hX hR; clear Kv) | with_reducible refine body_stop (fun Kv hN hX hR => ?_) | with_reducible refine Stop.mk ?_ | with_reducible refine Join.mk ⟨fun Kv hN hX hR => ?_, ?_⟩ | with_reducible refine DrawJ.each ?_ | with_reducible exact SubJ.self _ | with_reducible refine SubJ.of ?_ | with_reducible refine fill2_step (fun Kf hF => ?_) | with_reducible refine fill2_nil ?_ | with_reducible refine node2_step (fun Kg hG => ?_) | (with_reducible refine hF _ _ ?_; clear hF; clear Kf) | (with_reducible refine hG _ _ _ _ ?_; clear hG; clear Kg)))); all_goals (conv => whnf); all_goals (repeat ((try (clear hG; clear Kg)); clear hN hX hR; clear Kv))
                 all_goals (try simp only [Int.toNat_natCast] at *)
                 all_goals first
                   | exact Ob.mk ⟨by omega, of_decide_eq_true (by with_reducible assumption)⟩
                   | (have h5 := of_decide_eq_true (show decide ((j : Int) < (l.length : Nat)) = true by with_reducible assumption)
                      have e2 := flat_succ (l := l) (i := j) (by omega)
                      have e3 := congrArg List.length e2
                      rw [List.length_append] at e3
                      first
                        | (refine Ob.mk ?_
                           simp only [Rw.len, Rw.bts, Rw.kd, kdBytes] at *
                           omega)
                        | (refine ⟨j + 1, by omega, by omega, ?_⟩
                           (repeat' (first | ((with_reducible refine body_intro ?_); (first | ((with_reducible refine seq_intro ?_ (fun Kv hN hX hR => ?_)); (next => exact rfl)) | ((with_reducible refine join_intro ?_ ?_); (next => exact rfl)) | (conv => whnf))) | with_reducible refine body_stop (fun Kv hN hX hR => ?_) | with_reducible refine Stop.mk ?_ | with_reducible refine Join.mk ⟨fun Kv hN hX hR => ?_, ?_⟩ | with_reducible refine DrawJ.each ?_ | with_reducible exact SubJ.self _ | with_reducible refine SubJ.of ?_ | with_reducible refine fill2_step (fun Kf hF => ?_) | with_reducible refine fill2_nil ?_ | with_reducible refine node2_step (fun Kg hG => ?_) | (with_reducible refine hF _ _ ?_; clear hF; clear Kf) | (with_reducible refine hG _ _ _ _ ?_; clear hG; clear Kg) | ((with_reducible refine seq_intro ?_ (fun Kv hN hX hR => ?_)); (next => exact rfl)) | ((with_reducible refine join_intro ?_ ?_); (next => exact rfl)) | (with_reducible refine hN _ ?_; (try (clear hG; clear Kg)); clear hN hX hR; clear Kv) | (with_reducible refine hX _ _ ?_; (try (clear hG; clear Kg)); clear hN hX hR; clear Kv) | (with_reducible refine hR _ ?_; (try (clear hG; clear Kg)); clear hN hX hR; clear Kv) | ((conv => whnf); first | with_reducible rfl | with_reducible exact True.intro | with_reducible intro _ | with_reducible refine And.intro ?_ ?_ | (with_reducible refine hN _ ?_; (try (clear hG; clear Kg)); clear hN hX hR; clear Kv) | (with_reducible refine hX _ _ ?_; (try (clear hG; clear Kg)); clear hN hX hR; clear Kv) | (with_reducible refine hR _ ?_; (try (clear hG; clear Kg)); clear hN hX hR; clear Kv) | with_reducible refine body_stop (fun Kv hN hX hR => ?_) | with_reducible refine Stop.mk ?_ | with_reducible refine Join.mk ⟨fun Kv hN hX hR => ?_, ?_⟩ | with_reducible refine DrawJ.each ?_ | with_reducible exact SubJ.self _ | with_reducible refine SubJ.of ?_ | with_reducible refine fill2_step (fun Kf hF => ?_) | with_reducible refine fill2_nil ?_ | with_reducible refine node2_step (fun Kg hG => ?_) | (with_reducible refine hF _ _ ?_; clear hF; clear Kf) | (with_reducible refine hG _ _ _ _ ?_; clear hG; clear Kg)))); all_goals (conv => whnf); all_goals (repeat ((try (clear hG; clear Kg)); clear hN hX hR; clear Kv))
                           all_goals first
                             | exact wrapI (by omega) (by omega)
                             | exact congrArg Rw.ints e2.symm
                             | rfl))
                   | (have h5 := of_decide_eq_false (show decide ((j : Int) < (l.length : Nat)) = false by with_reducible assumption)
                      rw [List.take_of_length_le (by omega)])
                   | trace_state)
              | trace_state)
         | trace_state)
    | trace_state
theorem ids_arg {v : GView} (h : fitsV (dPView.e v)) : v.peers.length * 16 ≤ 140737488355328 := h.2.1
theorem k_Ids : Known Try.prog tau 32 (S1 dPView fun v => .ok (.own 0) [.ints (namesP v.peers)]) := by
  refine known1 hmix tau_ok ctx_nil (fn := Try.f32) (by kernel_rfl) [] (by kernel_rfl) _ _ fun v hfit => ⟨rfl,
    [(3, invA Nat [(3, 19, 0)] [3, 5, 11, 12, 13, 14, 15, 16, 17, 18, 19, 20] [19] (fun i => i ≤ v.peers.length) (fun i => fun st => withS [(11, .int .i64 i), (3, .own 19)] (withR [(19, .own (.ints (namesP (v.peers.take i))))] st)) (fun i => v.peers.length - i))], ?_⟩
  have hlen := ids_arg hfit.1
  clear hfit
  (repeat' (first | ((with_reducible refine body_intro ?_); (first | ((with_reducible refine seq_intro ?_ (fun Kv hN hX hR => ?_)); (next => exact rfl)) | ((with_reducible refine join_intro ?_ ?_); (next => exact rfl)) | (conv => whnf))) | with_reducible refine body_stop (fun Kv hN hX hR => ?_) | with_reducible refine Stop.mk ?_ | with_reducible refine Join.mk ⟨fun Kv hN hX hR => ?_, ?_⟩ | with_reducible refine DrawJ.each ?_ | with_reducible exact SubJ.self _ | with_reducible refine SubJ.of ?_ | with_reducible refine fill2_step (fun Kf hF => ?_) | with_reducible refine fill2_nil ?_ | with_reducible refine node2_step (fun Kg hG => ?_) | (with_reducible refine hF _ _ ?_; clear hF; clear Kf) | (with_reducible refine hG _ _ _ _ ?_; clear hG; clear Kg) | ((with_reducible refine seq_intro ?_ (fun Kv hN hX hR => ?_)); (next => exact rfl)) | ((with_reducible refine join_intro ?_ ?_); (next => exact rfl)) | (with_reducible refine hN _ ?_; (try (clear hG; clear Kg)); clear hN hX hR; clear Kv) | (with_reducible refine hX _ _ ?_; (try (clear hG; clear Kg)); clear hN hX hR; clear Kv) | (with_reducible refine hR _ ?_; (try (clear hG; clear Kg)); clear hN hX hR; clear Kv) | ((conv => whnf); first | with_reducible rfl | with_reducible exact True.intro | with_reducible refine (fun (_ : (_ : Prop)) => ?_) | with_reducible refine And.intro ?_ ?_ | (with_reducible refine hN _ ?_; (try (clear hG; clear Kg)); clear hN hX hR; clear Kv) | (with_reducible refine hX _ _ ?_; (try (clear hG; clear Kg)); clear hN hX hR; clear Kv) | (with_reducible refine hR _ ?_; (try (clear hG; clear Kg)); clear hN hX hR; clear Kv) | with_reducible refine body_stop (fun Kv hN hX hR => ?_) | with_reducible refine Stop.mk ?_ | with_reducible refine Join.mk ⟨fun Kv hN hX hR => ?_, ?_⟩ | with_reducible refine DrawJ.each ?_ | with_reducible exact SubJ.self _ | with_reducible refine SubJ.of ?_ | with_reducible refine fill2_step (fun Kf hF => ?_) | with_reducible refine fill2_nil ?_ | with_reducible refine node2_step (fun Kg hG => ?_) | (with_reducible refine hF _ _ ?_; clear hF; clear Kf) | (with_reducible refine hG _ _ _ _ ?_; clear hG; clear Kg)))); all_goals (conv => whnf); all_goals (repeat ((try (clear hG; clear Kg)); clear hN hX hR; clear Kv))
  all_goals first
    | (refine ⟨0, Nat.zero_le _, ?_⟩
       (repeat' (first | ((with_reducible refine body_intro ?_); (first | ((with_reducible refine seq_intro ?_ (fun Kv hN hX hR => ?_)); (next => exact rfl)) | ((with_reducible refine join_intro ?_ ?_); (next => exact rfl)) | (conv => whnf))) | with_reducible refine body_stop (fun Kv hN hX hR => ?_) | with_reducible refine Stop.mk ?_ | with_reducible refine Join.mk ⟨fun Kv hN hX hR => ?_, ?_⟩ | with_reducible refine DrawJ.each ?_ | with_reducible exact SubJ.self _ | with_reducible refine SubJ.of ?_ | with_reducible refine fill2_step (fun Kf hF => ?_) | with_reducible refine fill2_nil ?_ | with_reducible refine node2_step (fun Kg hG => ?_) | (with_reducible refine hF _ _ ?_; clear hF; clear Kf) | (with_reducible refine hG _ _ _ _ ?_; clear hG; clear Kg) | ((with_reducible refine seq_intro ?_ (fun Kv hN hX hR => ?_)); (next => exact rfl)) | ((with_reducible refine join_intro ?_ ?_); (next => exact rfl)) | (with_reducible refine hN _ ?_; (try (clear hG; clear Kg)); clear hN hX hR; clear Kv) | (with_reducible refine hX _ _ ?_; (try (clear hG; clear Kg)); clear hN hX hR; clear Kv) | (with_reducible refine hR _ ?_; (try (clear hG; clear Kg)); clear hN hX hR; clear Kv) | ((conv => whnf); first | with_reducible rfl | with_reducible exact True.intro | with_reducible intro _ | with_reducible refine And.intro ?_ ?_ | (with_reducible refine hN _ ?_; (try (clear hG; clear Kg)); clear hN hX hR; clear Kv) | (with_reducible refine hX _ _ ?_; (try (clear hG; clear Kg)); clear hN hX hR; clear Kv) | (with_reducible refine hR _ ?_; (try (clear hG; clear Kg)); clear hN hX hR; clear Kv) | with_reducible refine body_stop (fun Kv hN hX hR => ?_) | with_reducible refine Stop.mk ?_ | with_reducible refine Join.mk ⟨fun Kv hN hX hR => ?_, ?_⟩ | with_reducible refine DrawJ.each ?_ | with_reducible exact SubJ.self _ | with_reducible refine SubJ.of ?_ | with_reducible refine fill2_step (fun Kf hF => ?_) | with_reducible refine fill2_nil ?_ | with_reducible refine node2_step (fun Kg hG => ?_) | (with_reducible refine hF _ _ ?_; clear hF; clear Kf) | (with_reducible refine hG _ _ _ _ ?_; clear hG; clear Kg)))); all_goals (conv => whnf); all_goals (repeat ((try (clear hG; clear Kg)); clear hN hX hR; clear Kv))
       all_goals rfl)
    | (with_reducible intro i hi
       have hi : i ≤ v.peers.length := hi
       (repeat' (first | ((with_reducible refine body_intro ?_); (first | ((with_reducible refine seq_intro ?_ (fun Kv hN hX hR => ?_)); (next => exact rfl)) | ((with_reducible refine join_intro ?_ ?_); (next => exact rfl)) | (conv => whnf))) | with_reducible refine body_stop (fun Kv hN hX hR => ?_) | with_reducible refine Stop.mk ?_ | with_reducible refine Join.mk ⟨fun Kv hN hX hR => ?_, ?_⟩ | with_reducible refine DrawJ.each ?_ | with_reducible exact SubJ.self _ | with_reducible refine SubJ.of ?_ | with_reducible refine fill2_step (fun Kf hF => ?_) | with_reducible refine fill2_nil ?_ | with_reducible refine node2_step (fun Kg hG => ?_) | (with_reducible refine hF _ _ ?_; clear hF; clear Kf) | (with_reducible refine hG _ _ _ _ ?_; clear hG; clear Kg) | ((with_reducible refine seq_intro ?_ (fun Kv hN hX hR => ?_)); (next => exact rfl)) | ((with_reducible refine join_intro ?_ ?_); (next => exact rfl)) | (with_reducible refine hN _ ?_; (try (clear hG; clear Kg)); clear hN hX hR; clear Kv) | (with_reducible refine hX _ _ ?_; (try (clear hG; clear Kg)); clear hN hX hR; clear Kv) | (with_reducible refine hR _ ?_; (try (clear hG; clear Kg)); clear hN hX hR; clear Kv) | ((conv => whnf); first | with_reducible rfl | with_reducible exact True.intro | with_reducible intro _ | with_reducible refine And.intro ?_ ?_ | (with_reducible refine hN _ ?_; (try (clear hG; clear Kg)); clear hN hX hR; clear Kv) | (with_reducible refine hX _ _ ?_; (try (clear hG; clear Kg)); clear hN hX hR; clear Kv) | (with_reducible refine hR _ ?_; (try (clear hG; clear Kg)); clear hN hX hR; clear Kv) | with_reducible refine body_stop (fun Kv hN hX hR => ?_) | with_reducible refine Stop.mk ?_ | with_reducible refine Join.mk ⟨fun Kv hN hX hR => ?_, ?_⟩ | with_reducible refine DrawJ.each ?_ | with_reducible exact SubJ.self _ | with_reducible refine SubJ.of ?_ | with_reducible refine fill2_step (fun Kf hF => ?_) | with_reducible refine fill2_nil ?_ | with_reducible refine node2_step (fun Kg hG => ?_) | (with_reducible refine hF _ _ ?_; clear hF; clear Kf) | (with_reducible refine hG _ _ _ _ ?_; clear hG; clear Kg)))); all_goals (conv => whnf); all_goals (repeat ((try (clear hG; clear Kg)); clear hN hX hR; clear Kv))
       all_goals (try simp only [Int.toNat_natCast] at *)
       all_goals first
         | exact Ob.mk ⟨by omega, of_decide_eq_true (by with_reducible assumption)⟩
         | (refine Ob.mk ?_
            simp only [Rw.len, Rw.bts, Rw.kd, kdBytes, List.length_cons, List.length_nil, List.length_append, namesP_len, List.length_take]
            omega)
         | (have h := of_decide_eq_true (show decide ((i : Int) < (v.peers.length : Nat)) = true by with_reducible assumption)
            refine ⟨i + 1, by omega, by omega, ?_⟩
            have e1 := namesP_succ (l := v.peers) (i := i) (by omega)
            (repeat' (first | ((with_reducible refine body_intro ?_); (first | ((with_reducible refine seq_intro ?_ (fun Kv hN hX hR => ?_)); (next => exact rfl)) | ((with_reducible refine join_intro ?_ ?_); (next => exact rfl)) | (conv => whnf))) | with_reducible refine body_stop (fun Kv hN hX hR => ?_) | with_reducible refine Stop.mk ?_ | with_reducible refine Join.mk ⟨fun Kv hN hX hR => ?_, ?_⟩ | with_reducible refine DrawJ.each ?_ | with_reducible exact SubJ.self _ | with_reducible refine SubJ.of ?_ | with_reducible refine fill2_step (fun Kf hF => ?_) | with_reducible refine fill2_nil ?_ | with_reducible refine node2_step (fun Kg hG => ?_) | (with_reducible refine hF _ _ ?_; clear hF; clear Kf) | (with_reducible refine hG _ _ _ _ ?_; clear hG; clear Kg) | ((with_reducible refine seq_intro ?_ (fun Kv hN hX hR => ?_)); (next => exact rfl)) | ((with_reducible refine join_intro ?_ ?_); (next => exact rfl)) | (with_reducible refine hN _ ?_; (try (clear hG; clear Kg)); clear hN hX hR; clear Kv) | (with_reducible refine hX _ _ ?_; (try (clear hG; clear Kg)); clear hN hX hR; clear Kv) | (with_reducible refine hR _ ?_; (try (clear hG; clear Kg)); clear hN hX hR; clear Kv) | ((conv => whnf); first | with_reducible rfl | with_reducible exact True.intro | with_reducible intro _ | with_reducible refine And.intro ?_ ?_ | (with_reducible refine hN _ ?_; (try (clear hG; clear Kg)); clear hN hX hR; clear Kv) | (with_reducible refine hX _ _ ?_; (try (clear hG; clear Kg)); clear hN hX hR; clear Kv) | (with_reducible refine hR _ ?_; (try (clear hG; clear Kg)); clear hN hX hR; clear Kv) | with_reducible refine body_stop (fun Kv hN hX hR => ?_) | with_reducible refine Stop.mk ?_ | with_reducible refine Join.mk ⟨fun Kv hN hX hR => ?_, ?_⟩ | with_reducible refine DrawJ.each ?_ | with_reducible exact SubJ.self _ | with_reducible refine SubJ.of ?_ | with_reducible refine fill2_step (fun Kf hF => ?_) | with_reducible refine fill2_nil ?_ | with_reducible refine node2_step (fun Kg hG => ?_) | (with_reducible refine hF _ _ ?_; clear hF; clear Kf) | (with_reducible refine hG _ _ _ _ ?_; clear hG; clear Kg)))); all_goals (conv => whnf); all_goals (repeat ((try (clear hG; clear Kg)); clear hN hX hR; clear Kv))
            all_goals first
              | exact wrapI (by omega) (by omega)
              | exact congrArg Rw.ints e1.symm
              | rfl)
         | (have h := of_decide_eq_false (show decide ((i : Int) < (v.peers.length : Nat)) = false by with_reducible assumption)
            rw [List.take_of_length_le (by omega)])
         | trace_state)
    | trace_state
end Go.Proofs.Ytmhieddhmebfhaa

/- Contracts: peers that age; a view's copy; time that goes by. -/
namespace Go.Proofs.Ytmhieddhmebfhaa
open Go.RowKit
def leftP : List GPeer → List GPeer
  | [] => []
  | p :: l => if p.missed + 1 = 3 then leftP l else ⟨p.id, p.missed + 1⟩ :: leftP l
def lostP : List GPeer → List Int
  | [] => []
  | p :: l => if p.missed + 1 = 3 then p.id :: lostP l else lostP l
theorem leftP_app (a b : List GPeer) : leftP (a ++ b) = leftP a ++ leftP b := by
  induction a with
  | nil => rfl
  | cons p a ih => simp only [List.cons_append, leftP, ih]; split <;> rfl
theorem lostP_app (a b : List GPeer) : lostP (a ++ b) = lostP a ++ lostP b := by
  induction a with
  | nil => rfl
  | cons p a ih => simp only [List.cons_append, lostP, ih]; split <;> rfl
theorem leftP_succ {l : List GPeer} {i : Nat} (h : i < l.length) : leftP (l.take (i + 1)) = leftP (l.take i) ++ (if (l.getD i default).missed + 1 = 3 then [] else [⟨(l.getD i default).id, (l.getD i default).missed + 1⟩]) := by
  rw [List.take_succ_eq_append_getElem h, leftP_app, ← etaP h]
  simp only [leftP]
theorem lostP_succ {l : List GPeer} {i : Nat} (h : i < l.length) : lostP (l.take (i + 1)) = lostP (l.take i) ++ (if (l.getD i default).missed + 1 = 3 then [(l.getD i default).id] else []) := by
  rw [List.take_succ_eq_append_getElem h, lostP_app, ← etaP h]
  simp only [lostP]
theorem leftP_len (l : List GPeer) : (leftP l).length ≤ l.length := by
  induction l with
  | nil => exact Nat.le_refl _
  | cons p l ih => simp only [leftP]; split <;> simp <;> omega
theorem lostP_len (l : List GPeer) : (lostP l).length ≤ l.length := by
  induction l with
  | nil => exact Nat.le_refl _
  | cons p l ih => simp only [lostP]; split <;> simp <;> omega
theorem leftlost_len (l : List GPeer) : (leftP l).length + (lostP l).length = l.length := by
  induction l with
  | nil => rfl
  | cons p l ih => simp only [leftP, lostP]; split <;> simp <;> omega
noncomputable def ageP (b : Int) (l : List GPeer) : List GPeer × List Int × Int := Classical.choose (seal_ex (if peersB b l = true then (leftP l, lostP l, (0 : Int)) else ([], [], 700)))
theorem ageP_def (b : Int) (l : List GPeer) : ageP b l = if peersB b l = true then (leftP l, lostP l, 0) else ([], [], 700) := Classical.choose_spec (seal_ex _)
theorem ageP_yes {b : Int} {l : List GPeer} (h : peersB b l = true) : ageP b l = (leftP l, lostP l, 0) := by rw [ageP_def, if_pos h]
theorem ageP_no {b : Int} {l : List GPeer} (h : peersB b l = false) : ageP b l = ([], [], 700) := by rw [ageP_def, if_neg (by rw [h]; simp)]
noncomputable def oAge (b : Int) (l : List GPeer) : Out := .ok (.tup [.own 0, .own 1, .int .i64 (ageP b l).2.2]) [.peers (ageP b l).1, .ints (ageP b l).2.1]
theorem missed_in {b : Int} {l : List GPeer} {i : Nat} (h : peersB b l = true) (hi : i < l.length) : 0 ≤ (l.getD i default).missed ∧ (l.getD i default).missed < 3 := by
  have := (peersB_iff.1 h).2.2.2 _ (getD_mem (d := default) hi)
  simp only [peerB, Bool.and_eq_true, decide_eq_true_eq] at this
  omega
set_option maxHeartbeats 1000000 in
theorem k_peersAge : Known Try.prog tau 60 (S2 dInt dPeers oAge) := by
  refine known2 hmix tau_ok (ctx_cons k_peersMay ctx_nil) (fn := Try.f60) (by kernel_rfl) [] (by kernel_rfl) _ _ _ fun b l hfit => ⟨rfl,
    [(6, invA Nat [(7, 36, 3), (8, 32, 0)] [7, 8, 10, 17, 18, 19, 20, 21, 22, 23, 24, 25, 26, 27, 28, 29, 30, 31, 32, 33, 34, 35, 36, 37] [32, 36] (fun i => i ≤ l.length) (fun i => fun st => withS [(17, .int .i64 i), (7, .own 36), (8, .own 32)] (withR [(36, .own (.peers (leftP (l.take i)))), (32, .own (.ints (lostP (l.take i))))] st)) (fun i => l.length - i))], ?_⟩
  have hlen : l.length * 16 ≤ 140737488355328 := hfit.2.1
  clear hfit
  (repeat' (first | ((with_reducible refine body_intro ?_); (first | ((with_reducible refine seq_intro ?_ (fun Kv hN hX hR => ?_)); (next => exact rfl)) | ((with_reducible refine join_intro ?_ ?_); (next => exact rfl)) | (conv => whnf))) | with_reducible refine body_stop (fun Kv hN hX hR => ?_) | with_reducible refine Stop.mk ?_ | with_reducible refine Join.mk ⟨fun Kv hN hX hR => ?_, ?_⟩ | with_reducible refine DrawJ.each ?_ | with_reducible exact SubJ.self _ | with_reducible refine SubJ.of ?_ | with_reducible refine fill2_step (fun Kf hF => ?_) | with_reducible refine fill2_nil ?_ | with_reducible refine node2_step (fun Kg hG => ?_) | (with_reducible refine hF _ _ ?_; clear hF; clear Kf) | (with_reducible refine hG _ _ _ _ ?_; clear hG; clear Kg) | ((with_reducible refine seq_intro ?_ (fun Kv hN hX hR => ?_)); (next => exact rfl)) | ((with_reducible refine join_intro ?_ ?_); (next => exact rfl)) | (with_reducible refine hN _ ?_; (try (clear hG; clear Kg)); clear hN hX hR; clear Kv) | (with_reducible refine hX _ _ ?_; (try (clear hG; clear Kg)); clear hN hX hR; clear Kv) | (with_reducible refine hR _ ?_; (try (clear hG; clear Kg)); clear hN hX hR; clear Kv) | ((conv => whnf); first | with_reducible rfl | with_reducible exact True.intro | with_reducible refine (fun (_ : (_ : Prop)) => ?_) | with_reducible refine And.intro ?_ ?_ | (with_reducible refine hN _ ?_; (try (clear hG; clear Kg)); clear hN hX hR; clear Kv) | (with_reducible refine hX _ _ ?_; (try (clear hG; clear Kg)); clear hN hX hR; clear Kv) | (with_reducible refine hR _ ?_; (try (clear hG; clear Kg)); clear hN hX hR; clear Kv) | with_reducible refine body_stop (fun Kv hN hX hR => ?_) | with_reducible refine Stop.mk ?_ | with_reducible refine Join.mk ⟨fun Kv hN hX hR => ?_, ?_⟩ | with_reducible refine DrawJ.each ?_ | with_reducible exact SubJ.self _ | with_reducible refine SubJ.of ?_ | with_reducible refine fill2_step (fun Kf hF => ?_) | with_reducible refine fill2_nil ?_ | with_reducible refine node2_step (fun Kg hG => ?_) | (with_reducible refine hF _ _ ?_; clear hF; clear Kf) | (with_reducible refine hG _ _ _ _ ?_; clear hG; clear Kg)))); all_goals (conv => whnf); all_goals (repeat ((try (clear hG; clear Kg)); clear hN hX hR; clear Kv))
  all_goals first
    | (rw [ageP_no (nf (by with_reducible assumption))] <;> rfl)
    | (refine ⟨0, Nat.zero_le _, ?_⟩
       (repeat' (first | ((with_reducible refine body_intro ?_); (first | ((with_reducible refine seq_intro ?_ (fun Kv hN hX hR => ?_)); (next => exact rfl)) | ((with_reducible refine join_intro ?_ ?_); (next => exact rfl)) | (conv => whnf))) | with_reducible refine body_stop (fun Kv hN hX hR => ?_) | with_reducible refine Stop.mk ?_ | with_reducible refine Join.mk ⟨fun Kv hN hX hR => ?_, ?_⟩ | with_reducible refine DrawJ.each ?_ | with_reducible exact SubJ.self _ | with_reducible refine SubJ.of ?_ | with_reducible refine fill2_step (fun Kf hF => ?_) | with_reducible refine fill2_nil ?_ | with_reducible refine node2_step (fun Kg hG => ?_) | (with_reducible refine hF _ _ ?_; clear hF; clear Kf) | (with_reducible refine hG _ _ _ _ ?_; clear hG; clear Kg) | ((with_reducible refine seq_intro ?_ (fun Kv hN hX hR => ?_)); (next => exact rfl)) | ((with_reducible refine join_intro ?_ ?_); (next => exact rfl)) | (with_reducible refine hN _ ?_; (try (clear hG; clear Kg)); clear hN hX hR; clear Kv) | (with_reducible refine hX _ _ ?_; (try (clear hG; clear Kg)); clear hN hX hR; clear Kv) | (with_reducible refine hR _ ?_; (try (clear hG; clear Kg)); clear hN hX hR; clear Kv) | ((conv => whnf); first | with_reducible rfl | with_reducible exact True.intro | with_reducible intro _ | with_reducible refine And.intro ?_ ?_ | (with_reducible refine hN _ ?_; (try (clear hG; clear Kg)); clear hN hX hR; clear Kv) | (with_reducible refine hX _ _ ?_; (try (clear hG; clear Kg)); clear hN hX hR; clear Kv) | (with_reducible refine hR _ ?_; (try (clear hG; clear Kg)); clear hN hX hR; clear Kv) | with_reducible refine body_stop (fun Kv hN hX hR => ?_) | with_reducible refine Stop.mk ?_ | with_reducible refine Join.mk ⟨fun Kv hN hX hR => ?_, ?_⟩ | with_reducible refine DrawJ.each ?_ | with_reducible exact SubJ.self _ | with_reducible refine SubJ.of ?_ | with_reducible refine fill2_step (fun Kf hF => ?_) | with_reducible refine fill2_nil ?_ | with_reducible refine node2_step (fun Kg hG => ?_) | (with_reducible refine hF _ _ ?_; clear hF; clear Kf) | (with_reducible refine hG _ _ _ _ ?_; clear hG; clear Kg)))); all_goals (conv => whnf); all_goals (repeat ((try (clear hG; clear Kg)); clear hN hX hR; clear Kv))
       all_goals rfl)
    | (with_reducible intro i hi
       have hi : i ≤ l.length := hi
       have hB : peersB b l = true := nt (by with_reducible assumption)
       (repeat' (first | ((with_reducible refine body_intro ?_); (first | ((with_reducible refine seq_intro ?_ (fun Kv hN hX hR => ?_)); (next => exact rfl)) | ((with_reducible refine join_intro ?_ ?_); (next => exact rfl)) | (conv => whnf))) | with_reducible refine body_stop (fun Kv hN hX hR => ?_) | with_reducible refine Stop.mk ?_ | with_reducible refine Join.mk ⟨fun Kv hN hX hR => ?_, ?_⟩ | with_reducible refine DrawJ.each ?_ | with_reducible exact SubJ.self _ | with_reducible refine SubJ.of ?_ | with_reducible refine fill2_step (fun Kf hF => ?_) | with_reducible refine fill2_nil ?_ | with_reducible refine node2_step (fun Kg hG => ?_) | (with_reducible refine hF _ _ ?_; clear hF; clear Kf) | (with_reducible refine hG _ _ _ _ ?_; clear hG; clear Kg) | ((with_reducible refine seq_intro ?_ (fun Kv hN hX hR => ?_)); (next => exact rfl)) | ((with_reducible refine join_intro ?_ ?_); (next => exact rfl)) | (with_reducible refine hN _ ?_; (try (clear hG; clear Kg)); clear hN hX hR; clear Kv) | (with_reducible refine hX _ _ ?_; (try (clear hG; clear Kg)); clear hN hX hR; clear Kv) | (with_reducible refine hR _ ?_; (try (clear hG; clear Kg)); clear hN hX hR; clear Kv) | ((conv => whnf); first | with_reducible rfl | with_reducible exact True.intro | with_reducible intro _ | with_reducible refine And.intro ?_ ?_ | (with_reducible refine hN _ ?_; (try (clear hG; clear Kg)); clear hN hX hR; clear Kv) | (with_reducible refine hX _ _ ?_; (try (clear hG; clear Kg)); clear hN hX hR; clear Kv) | (with_reducible refine hR _ ?_; (try (clear hG; clear Kg)); clear hN hX hR; clear Kv) | with_reducible refine body_stop (fun Kv hN hX hR => ?_) | with_reducible refine Stop.mk ?_ | with_reducible refine Join.mk ⟨fun Kv hN hX hR => ?_, ?_⟩ | with_reducible refine DrawJ.each ?_ | with_reducible exact SubJ.self _ | with_reducible refine SubJ.of ?_ | with_reducible refine fill2_step (fun Kf hF => ?_) | with_reducible refine fill2_nil ?_ | with_reducible refine node2_step (fun Kg hG => ?_) | (with_reducible refine hF _ _ ?_; clear hF; clear Kf) | (with_reducible refine hG _ _ _ _ ?_; clear hG; clear Kg)))); all_goals (conv => whnf); all_goals (repeat ((try (clear hG; clear Kg)); clear hN hX hR; clear Kv))
       all_goals (try simp only [Int.toNat_natCast] at *)
       all_goals first
         | exact Ob.mk ⟨by omega, of_decide_eq_true (by with_reducible assumption)⟩
         | (refine Ob.mk ?_
            have g1 := leftP_len (l.take i)
            have g2 := lostP_len (l.take i)
            simp only [Rw.len, Rw.bts, Rw.kd, kdBytes, List.length_cons, List.length_nil, List.length_append, List.length_take] at *
            omega)
         | (have h := of_decide_eq_true (show decide ((i : Int) < (l.length : Nat)) = true by with_reducible assumption)
            have hm := missed_in hB (i := i) (by omega)
            have w1 : IntKind.i64.wrap ((l.getD i default).missed + 1) = (l.getD i default).missed + 1 := wrapI (by omega) (by omega)
            have e1 := leftP_succ (l := l) (i := i) (by omega)
            have e2 := lostP_succ (l := l) (i := i) (by omega)
            first
              | (have h3 := of_decide_eq_true (show decide (IntKind.i64.wrap ((l.getD i default).missed + 1) = 3) = true by with_reducible assumption)
                 rw [w1] at h3
                 rw [if_pos h3] at e1 e2
                 rw [List.append_nil] at e1
                 refine ⟨i + 1, by omega, by omega, ?_⟩
                 (repeat' (first | ((with_reducible refine body_intro ?_); (first | ((with_reducible refine seq_intro ?_ (fun Kv hN hX hR => ?_)); (next => exact rfl)) | ((with_reducible refine join_intro ?_ ?_); (next => exact rfl)) | (conv => whnf))) | with_reducible refine body_stop (fun Kv hN hX hR => ?_) | with_reducible refine Stop.mk ?_ | with_reducible refine Join.mk ⟨fun Kv hN hX hR => ?_, ?_⟩ | with_reducible refine DrawJ.each ?_ | with_reducible exact SubJ.self _ | with_reducible refine SubJ.of ?_ | with_reducible refine fill2_step (fun Kf hF => ?_) | with_reducible refine fill2_nil ?_ | with_reducible refine node2_step (fun Kg hG => ?_) | (with_reducible refine hF _ _ ?_; clear hF; clear Kf) | (with_reducible refine hG _ _ _ _ ?_; clear hG; clear Kg) | ((with_reducible refine seq_intro ?_ (fun Kv hN hX hR => ?_)); (next => exact rfl)) | ((with_reducible refine join_intro ?_ ?_); (next => exact rfl)) | (with_reducible refine hN _ ?_; (try (clear hG; clear Kg)); clear hN hX hR; clear Kv) | (with_reducible refine hX _ _ ?_; (try (clear hG; clear Kg)); clear hN hX hR; clear Kv) | (with_reducible refine hR _ ?_; (try (clear hG; clear Kg)); clear hN hX hR; clear Kv) | ((conv => whnf); first | with_reducible rfl | with_reducible exact True.intro | with_reducible intro _ | with_reducible refine And.intro ?_ ?_ | (with_reducible refine hN _ ?_; (try (clear hG; clear Kg)); clear hN hX hR; clear Kv) | (with_reducible refine hX _ _ ?_; (try (clear hG; clear Kg)); clear hN hX hR; clear Kv) | (with_reducible refine hR _ ?_; (try (clear hG; clear Kg)); clear hN hX hR; clear Kv) | with_reducible refine body_stop (fun Kv hN hX hR => ?_) | with_reducible refine Stop.mk ?_ | with_reducible refine Join.mk ⟨fun Kv hN hX hR => ?_, ?_⟩ | with_reducible refine DrawJ.each ?_ | with_reducible exact SubJ.self _ | with_reducible refine SubJ.of ?_ | with_reducible refine fill2_step (fun Kf hF => ?_) | with_reducible refine fill2_nil ?_ | with_reducible refine node2_step (fun Kg hG => ?_) | (with_reducible refine hF _ _ ?_; clear hF; clear Kf) | (with_reducible refine hG _ _ _ _ ?_; clear hG; clear Kg)))); all_goals (conv => whnf); all_goals (repeat ((try (clear hG; clear Kg)); clear hN hX hR; clear Kv))
                 all_goals first
                   | exact wrapI (by omega) (by omega)
                   | exact congrArg Rw.peers e1.symm
                   | exact congrArg Rw.ints e2.symm
                   | rfl)
              | (have h3 := of_decide_eq_false (show decide (IntKind.i64.wrap ((l.getD i default).missed + 1) = 3) = false by with_reducible assumption)
                 rw [w1] at h3
                 rw [if_neg h3] at e1 e2
                 rw [List.append_nil] at e2
                 rw [← w1] at e1
                 refine ⟨i + 1, by omega, by omega, ?_⟩
                 (repeat' (first | ((with_reducible refine body_intro ?_); (first | ((with_reducible refine seq_intro ?_ (fun Kv hN hX hR => ?_)); (next => exact rfl)) | ((with_reducible refine join_intro ?_ ?_); (next => exact rfl)) | (conv => whnf))) | with_reducible refine body_stop (fun Kv hN hX hR => ?_) | with_reducible refine Stop.mk ?_ | with_reducible refine Join.mk ⟨fun Kv hN hX hR => ?_, ?_⟩ | with_reducible refine DrawJ.each ?_ | with_reducible exact SubJ.self _ | with_reducible refine SubJ.of ?_ | with_reducible refine fill2_step (fun Kf hF => ?_) | with_reducible refine fill2_nil ?_ | with_reducible refine node2_step (fun Kg hG => ?_) | (with_reducible refine hF _ _ ?_; clear hF; clear Kf) | (with_reducible refine hG _ _ _ _ ?_; clear hG; clear Kg) | ((with_reducible refine seq_intro ?_ (fun Kv hN hX hR => ?_)); (next => exact rfl)) | ((with_reducible refine join_intro ?_ ?_); (next => exact rfl)) | (with_reducible refine hN _ ?_; (try (clear hG; clear Kg)); clear hN hX hR; clear Kv) | (with_reducible refine hX _ _ ?_; (try (clear hG; clear Kg)); clear hN hX hR; clear Kv) | (with_reducible refine hR _ ?_; (try (clear hG; clear Kg)); clear hN hX hR; clear Kv) | ((conv => whnf); first | with_reducible rfl | with_reducible exact True.intro | with_reducible intro _ | with_reducible refine And.intro ?_ ?_ | (with_reducible refine hN _ ?_; (try (clear hG; clear Kg)); clear hN hX hR; clear Kv) | (with_reducible refine hX _ _ ?_; (try (clear hG; clear Kg)); clear hN hX hR; clear Kv) | (with_reducible refine hR _ ?_; (try (clear hG; clear Kg)); clear hN hX hR; clear Kv) | with_reducible refine body_stop (fun Kv hN hX hR => ?_) | with_reducible refine Stop.mk ?_ | with_reducible refine Join.mk ⟨fun Kv hN hX hR => ?_, ?_⟩ | with_reducible refine DrawJ.each ?_ | with_reducible exact SubJ.self _ | with_reducible refine SubJ.of ?_ | with_reducible refine fill2_step (fun Kf hF => ?_) | with_reducible refine fill2_nil ?_ | with_reducible refine node2_step (fun Kg hG => ?_) | (with_reducible refine hF _ _ ?_; clear hF; clear Kf) | (with_reducible refine hG _ _ _ _ ?_; clear hG; clear Kg)))); all_goals (conv => whnf); all_goals (repeat ((try (clear hG; clear Kg)); clear hN hX hR; clear Kv))
                 all_goals first
                   | exact wrapI (by omega) (by omega)
                   | exact congrArg Rw.peers e1.symm
                   | exact congrArg Rw.ints e2.symm
                   | rfl))
         | (have h := of_decide_eq_false (show decide ((i : Int) < (l.length : Nat)) = false by with_reducible assumption)
            first
              | (rw [ageP_yes hB]; done)
              | (rw [ageP_yes hB, List.take_of_length_le (by omega)]; done))
         | trace_state)
    | trace_state
theorem k_viewCopy : Known Try.prog tau 56 (S1 dView fun v => .ok (.agg [.int .i64 v.id, .own 0, .own 1]) [.peers v.peers, .ints v.passive]) := by
  refine known1 hmix tau_ok (ctx_cons k_ClonePeers (ctx_cons k_CloneInts ctx_nil)) (fn := Try.f56) (by kernel_rfl) [(1, [(0, 0), (1, 1), (2, 2), (3, 0), (4, 8), (5, 20), (6, 31), (7, 127), (8, 255), (9, 511)])] (by kernel_rfl) _ _ fun v hfit => ⟨rfl, [], ?_⟩
  clear hfit
  (repeat' (first | ((with_reducible refine body_intro ?_); (first | ((with_reducible refine seq_intro ?_ (fun Kv hN hX hR => ?_)); (next => exact rfl)) | ((with_reducible refine join_intro ?_ ?_); (next => exact rfl)) | (conv => whnf))) | with_reducible refine body_stop (fun Kv hN hX hR => ?_) | with_reducible refine Stop.mk ?_ | with_reducible refine Join.mk ⟨fun Kv hN hX hR => ?_, ?_⟩ | with_reducible apply DrawJ.join | with_reducible exact SubJ.self _ | ((with_reducible refine SubJ.of ?_); (repeat' (first | with_reducible rfl | ((conv => whnf) <;> (first | with_reducible exact True.intro | with_reducible refine And.intro ?_ ?_ | with_reducible rfl | ((conv => rhs; whnf) <;> with_reducible rfl))))); done) | with_reducible refine fill2_step (fun Kf hF => ?_) | with_reducible refine fill2_nil ?_ | with_reducible refine node2_step (fun Kg hG => ?_) | (with_reducible refine hF _ _ ?_; clear hF; clear Kf) | (with_reducible refine hG _ _ _ _ ?_; clear hG; clear Kg) | ((with_reducible refine seq_intro ?_ (fun Kv hN hX hR => ?_)); (next => exact rfl)) | ((with_reducible refine join_intro ?_ ?_); (next => exact rfl)) | (with_reducible refine hN _ ?_; (try (clear hG; clear Kg)); clear hN hX hR; clear Kv) | (with_reducible refine hX _ _ ?_; (try (clear hG; clear Kg)); clear hN hX hR; clear Kv) | (with_reducible refine hR _ ?_; (try (clear hG; clear Kg)); clear hN hX hR; clear Kv) | ((conv => whnf); first | with_reducible rfl | with_reducible exact True.intro | with_reducible intro _ | with_reducible refine And.intro ?_ ?_ | (with_reducible refine hN _ ?_; (try (clear hG; clear Kg)); clear hN hX hR; clear Kv) | (with_reducible refine hX _ _ ?_; (try (clear hG; clear Kg)); clear hN hX hR; clear Kv) | (with_reducible refine hR _ ?_; (try (clear hG; clear Kg)); clear hN hX hR; clear Kv) | with_reducible refine body_stop (fun Kv hN hX hR => ?_) | with_reducible refine Stop.mk ?_ | with_reducible refine Join.mk ⟨fun Kv hN hX hR => ?_, ?_⟩ | with_reducible apply DrawJ.join | with_reducible exact SubJ.self _ | ((with_reducible refine SubJ.of ?_); (repeat' (first | with_reducible rfl | ((conv => whnf) <;> (first | with_reducible exact True.intro | with_reducible refine And.intro ?_ ?_ | with_reducible rfl | ((conv => rhs; whnf) <;> with_reducible rfl))))); done) | with_reducible refine fill2_step (fun Kf hF => ?_) | with_reducible refine fill2_nil ?_ | with_reducible refine node2_step (fun Kg hG => ?_) | (with_reducible refine hF _ _ ?_; clear hF; clear Kf) | (with_reducible refine hG _ _ _ _ ?_; clear hG; clear Kg)))); all_goals (conv => whnf); all_goals (repeat ((try (clear hG; clear Kg)); clear hN hX hR; clear Kv))
  all_goals first
    | rfl
    | trace_state
end Go.Proofs.Ytmhieddhmebfhaa

/- Contracts: time that goes by: the program's. -/
namespace Go.Proofs.Ytmhieddhmebfhaa
open Go.RowKit
/-- Those that are lost are passive. -/
noncomputable def foldW : List Int → List Int → List Int
  | acc, [] => acc
  | acc, x :: l => foldW (withP acc x).1 l
theorem foldW_next {acc l : List Int} {i : Nat} (h : i < l.length) : foldW acc (l.drop i) = foldW (withP acc (l.getD i 0)).1 (l.drop (i + 1)) := by
  rw [drop_one_more (d := 0) h, foldW]
theorem foldW_end {acc l : List Int} {i : Nat} (h : ¬ i < l.length) : foldW acc (l.drop i) = acc := by
  rw [List.drop_eq_nil_of_le (by omega)]
  rfl
theorem withP_len (l : List Int) (x : Int) : (withP l x).1.length ≤ l.length + 1 := by
  rw [withP_def]
  split
  · split
    · simp
    · split
      · simp
      · simp [insP_len]
  · simp
theorem foldW_len : ∀ (l acc : List Int), (foldW acc l).length ≤ acc.length + l.length
  | [], acc => by simp [foldW]
  | x :: l, acc => by
    have h1 := foldW_len l (withP acc x).1
    have h2 := withP_len acc x
    simp only [foldW, List.length_cons]
    omega
def viewZ : GView := ⟨0, [], []⟩
noncomputable def tickV (v : GView) : GView × List Int × Int := Classical.choose (seal_ex (if viewB v = true then ((⟨v.id, leftP v.peers, foldW v.passive (lostP v.peers)⟩ : GView), namesP (leftP v.peers) ++ foldW v.passive (lostP v.peers), (0 : Int)) else (viewZ, [], 1100)))
theorem tickV_def (v : GView) : tickV v = if viewB v = true then ((⟨v.id, leftP v.peers, foldW v.passive (lostP v.peers)⟩ : GView), namesP (leftP v.peers) ++ foldW v.passive (lostP v.peers), (0 : Int)) else (viewZ, [], 1100) := Classical.choose_spec (seal_ex _)
theorem tickV_yes {v : GView} (h : viewB v = true) : tickV v = (⟨v.id, leftP v.peers, foldW v.passive (lostP v.peers)⟩, namesP (leftP v.peers) ++ foldW v.passive (lostP v.peers), 0) := by rw [tickV_def, if_pos h]
theorem tickV_no {v : GView} (h : viewB v = false) : tickV v = (viewZ, [], 1100) := by rw [tickV_def, if_neg (by rw [h]; simp)]
/-- A view that is new. -/
def vNew (v : GView) : List SV := [.int .i64 v.id, .row .new (.peers v.peers), .row .new (.ints v.passive)]
noncomputable def oTickV (v : GView) : Out := .ok (.tup [.agg [.int .i64 (tickV v).1.id, .own 0, .row .new (.ints (tickV v).1.passive)], .own 1, .int .i64 (tickV v).2.2]) [.peers (tickV v).1.peers, .ints (tickV v).2.1]
set_option maxHeartbeats 2000000 in
theorem k_ageTick : Known Try.prog tau 31 (S1 dView oTickV) := by
  refine known1 hmix tau_ok (ctx_cons k_passWith (ctx_cons k_viewMay (ctx_cons k_viewCopy (ctx_cons k_peersAge (ctx_cons k_Concat (ctx_cons k_Ids ctx_nil)))))) (fn := Try.f31) (by kernel_rfl) [(11, [(0, 0), (1, 0), (2, 0), (3, 4), (4, 10), (5, 18), (6, 33), (7, 127), (8, 255)])] (by kernel_rfl) _ _ fun v hfit => ⟨rfl,
    [(7, invF (Nat × List Int) [22] [10, 30, 31, 32, 33, 34, 35, 36, 37, 38, 39, 40, 41, 42] [5] (fun g => g.1 ≤ (lostP v.peers).length ∧ g.2.length ≤ v.passive.length + g.1 ∧ foldW v.passive (lostP v.peers) = foldW g.2 ((lostP v.peers).drop g.1)) (fun g => match g with
      | (i, acc) => fun st => withS [(30, .int .i64 i)] (withB [(5, (26, [.int .i64 v.id, .own 22, .row .new (.ints acc)]))] st)) (fun g => (lostP v.peers).length - g.1))], ?_⟩
  have hp : v.peers.length * 16 ≤ 140737488355328 := hfit.1.2.1
  clear hfit
  (repeat' (first | ((with_reducible refine body_intro ?_); (first | ((with_reducible refine seq_intro ?_ (fun Kv hN hX hR => ?_)); (next => exact rfl)) | ((with_reducible refine join_intro ?_ ?_); (next => exact rfl)) | (conv => whnf))) | with_reducible refine body_stop (fun Kv hN hX hR => ?_) | with_reducible refine Stop.mk ?_ | with_reducible refine Join.mk ⟨fun Kv hN hX hR => ?_, ?_⟩ | with_reducible apply DrawJ.join | with_reducible exact SubJ.self _ | ((with_reducible refine SubJ.of ?_); (repeat' (first | with_reducible rfl | ((conv => whnf) <;> (first | with_reducible exact True.intro | with_reducible refine And.intro ?_ ?_ | with_reducible rfl | ((conv => rhs; whnf) <;> with_reducible rfl))))); done) | with_reducible refine fill2_step (fun Kf hF => ?_) | with_reducible refine fill2_nil ?_ | with_reducible refine node2_step (fun Kg hG => ?_) | (with_reducible refine hF _ _ ?_; clear hF; clear Kf) | (with_reducible refine hG _ _ _ _ ?_; clear hG; clear Kg) | ((with_reducible refine seq_intro ?_ (fun Kv hN hX hR => ?_)); (next => exact rfl)) | ((with_reducible refine join_intro ?_ ?_); (next => exact rfl)) | (with_reducible refine hN _ ?_; (try (clear hG; clear Kg)); clear hN hX hR; clear Kv) | (with_reducible refine hX _ _ ?_; (try (clear hG; clear Kg)); clear hN hX hR; clear Kv) | (with_reducible refine hR _ ?_; (try (clear hG; clear Kg)); clear hN hX hR; clear Kv) | ((conv => whnf); first | with_reducible rfl | with_reducible exact True.intro | with_reducible refine (fun (_ : (_ : Prop)) => ?_) | with_reducible refine And.intro ?_ ?_ | (with_reducible refine hN _ ?_; (try (clear hG; clear Kg)); clear hN hX hR; clear Kv) | (with_reducible refine hX _ _ ?_; (try (clear hG; clear Kg)); clear hN hX hR; clear Kv) | (with_reducible refine hR _ ?_; (try (clear hG; clear Kg)); clear hN hX hR; clear Kv) | with_reducible refine body_stop (fun Kv hN hX hR => ?_) | with_reducible refine Stop.mk ?_ | with_reducible refine Join.mk ⟨fun Kv hN hX hR => ?_, ?_⟩ | with_reducible apply DrawJ.join | with_reducible exact SubJ.self _ | ((with_reducible refine SubJ.of ?_); (repeat' (first | with_reducible rfl | ((conv => whnf) <;> (first | with_reducible exact True.intro | with_reducible refine And.intro ?_ ?_ | with_reducible rfl | ((conv => rhs; whnf) <;> with_reducible rfl))))); done) | with_reducible refine fill2_step (fun Kf hF => ?_) | with_reducible refine fill2_nil ?_ | with_reducible refine node2_step (fun Kg hG => ?_) | (with_reducible refine hF _ _ ?_; clear hF; clear Kf) | (with_reducible refine hG _ _ _ _ ?_; clear hG; clear Kg)))); all_goals (conv => whnf); all_goals (repeat ((try (clear hG; clear Kg)); clear hN hX hR; clear Kv))
  all_goals first
    | (rw [tickV_no (nf (by with_reducible assumption))] <;> rfl)
    | (have hB : viewB v = true := nt (by with_reducible assumption)
       have hP := (viewB_iff.1 hB).1
       have ha := ageP_yes hP
       have hl := leftlost_len v.peers
       refine ⟨(0, v.passive), ⟨Nat.zero_le _, by simp, rfl⟩, ?_⟩
       (repeat' (first | ((with_reducible refine body_intro ?_); (first | ((with_reducible refine seq_intro ?_ (fun Kv hN hX hR => ?_)); (next => exact rfl)) | ((with_reducible refine join_intro ?_ ?_); (next => exact rfl)) | (conv => whnf))) | with_reducible refine body_stop (fun Kv hN hX hR => ?_) | with_reducible refine Stop.mk ?_ | with_reducible refine Join.mk ⟨fun Kv hN hX hR => ?_, ?_⟩ | with_reducible refine DrawJ.each ?_ | with_reducible exact SubJ.self _ | with_reducible refine SubJ.of ?_ | with_reducible refine fill2_step (fun Kf hF => ?_) | with_reducible refine fill2_nil ?_ | with_reducible refine node2_step (fun Kg hG => ?_) | (with_reducible refine hF _ _ ?_; clear hF; clear Kf) | (with_reducible refine hG _ _ _ _ ?_; clear hG; clear Kg) | ((with_reducible refine seq_intro ?_ (fun Kv hN hX hR => ?_)); (next => exact rfl)) | ((with_reducible refine join_intro ?_ ?_); (next => exact rfl)) | (with_reducible refine hN _ ?_; (try (clear hG; clear Kg)); clear hN hX hR; clear Kv) | (with_reducible refine hX _ _ ?_; (try (clear hG; clear Kg)); clear hN hX hR; clear Kv) | (with_reducible refine hR _ ?_; (try (clear hG; clear Kg)); clear hN hX hR; clear Kv) | ((conv => whnf); first | with_reducible rfl | with_reducible exact True.intro | with_reducible intro _ | with_reducible refine And.intro ?_ ?_ | (with_reducible refine hN _ ?_; (try (clear hG; clear Kg)); clear hN hX hR; clear Kv) | (with_reducible refine hX _ _ ?_; (try (clear hG; clear Kg)); clear hN hX hR; clear Kv) | (with_reducible refine hR _ ?_; (try (clear hG; clear Kg)); clear hN hX hR; clear Kv) | with_reducible refine body_stop (fun Kv hN hX hR => ?_) | with_reducible refine Stop.mk ?_ | with_reducible refine Join.mk ⟨fun Kv hN hX hR => ?_, ?_⟩ | with_reducible refine DrawJ.each ?_ | with_reducible exact SubJ.self _ | with_reducible refine SubJ.of ?_ | with_reducible refine fill2_step (fun Kf hF => ?_) | with_reducible refine fill2_nil ?_ | with_reducible refine node2_step (fun Kg hG => ?_) | (with_reducible refine hF _ _ ?_; clear hF; clear Kf) | (with_reducible refine hG _ _ _ _ ?_; clear hG; clear Kg)))); all_goals (conv => whnf); all_goals (repeat ((try (clear hG; clear Kg)); clear hN hX hR; clear Kv))
       all_goals first
         | rfl
         | exact congrArg (fun q : List GPeer × List Int × Int => Rw.peers q.1) ha
         | trace_state)
    | (rintro ⟨i, acc⟩ ⟨hi, hl, hf⟩
       dsimp only at hi hl hf
       have hB : viewB v = true := nt (by with_reducible assumption)
       have hP := (viewB_iff.1 hB).1
       have hP16 := (viewB_iff.1 hB).2.2.1
       have ha := ageP_yes hP
       have hl2 := leftlost_len v.peers
       have ht := tickV_yes hB
       (repeat' (first | ((with_reducible refine body_intro ?_); (first | ((with_reducible refine seq_intro ?_ (fun Kv hN hX hR => ?_)); (next => exact rfl)) | ((with_reducible refine join_intro ?_ ?_); (next => exact rfl)) | (conv => whnf))) | with_reducible refine body_stop (fun Kv hN hX hR => ?_) | with_reducible refine Stop.mk ?_ | with_reducible refine Join.mk ⟨fun Kv hN hX hR => ?_, ?_⟩ | with_reducible refine DrawJ.each ?_ | with_reducible exact SubJ.self _ | with_reducible refine SubJ.of ?_ | with_reducible refine fill2_step (fun Kf hF => ?_) | with_reducible refine fill2_nil ?_ | with_reducible refine node2_step (fun Kg hG => ?_) | (with_reducible refine hF _ _ ?_; clear hF; clear Kf) | (with_reducible refine hG _ _ _ _ ?_; clear hG; clear Kg) | ((with_reducible refine seq_intro ?_ (fun Kv hN hX hR => ?_)); (next => exact rfl)) | ((with_reducible refine join_intro ?_ ?_); (next => exact rfl)) | (with_reducible refine hN _ ?_; (try (clear hG; clear Kg)); clear hN hX hR; clear Kv) | (with_reducible refine hX _ _ ?_; (try (clear hG; clear Kg)); clear hN hX hR; clear Kv) | (with_reducible refine hR _ ?_; (try (clear hG; clear Kg)); clear hN hX hR; clear Kv) | ((conv => whnf); first | with_reducible rfl | with_reducible exact True.intro | with_reducible intro _ | with_reducible refine And.intro ?_ ?_ | (with_reducible refine hN _ ?_; (try (clear hG; clear Kg)); clear hN hX hR; clear Kv) | (with_reducible refine hX _ _ ?_; (try (clear hG; clear Kg)); clear hN hX hR; clear Kv) | (with_reducible refine hR _ ?_; (try (clear hG; clear Kg)); clear hN hX hR; clear Kv) | with_reducible refine body_stop (fun Kv hN hX hR => ?_) | with_reducible refine Stop.mk ?_ | with_reducible refine Join.mk ⟨fun Kv hN hX hR => ?_, ?_⟩ | with_reducible refine DrawJ.each ?_ | with_reducible exact SubJ.self _ | with_reducible refine SubJ.of ?_ | with_reducible refine fill2_step (fun Kf hF => ?_) | with_reducible refine fill2_nil ?_ | with_reducible refine node2_step (fun Kg hG => ?_) | (with_reducible refine hF _ _ ?_; clear hF; clear Kf) | (with_reducible refine hG _ _ _ _ ?_; clear hG; clear Kg)))); all_goals (conv => whnf); all_goals (repeat ((try (clear hG; clear Kg)); clear hN hX hR; clear Kv))
       all_goals (try dsimp only at *)
       all_goals (try simp only [ha, Int.toNat_natCast] at *)
       all_goals first
         | exact Ob.mk ⟨by omega, of_decide_eq_true (by with_reducible assumption)⟩
         | (have h := of_decide_eq_true (show decide ((i : Int) < ((lostP v.peers).length : Nat)) = true by with_reducible assumption)
            have hw := withP_len acc ((lostP v.peers).getD i 0)
            refine ⟨(i + 1, (withP acc ((lostP v.peers).getD i 0)).1), ⟨by show i + 1 ≤ (lostP v.peers).length; omega, by show (withP acc ((lostP v.peers).getD i 0)).1.length ≤ v.passive.length + (i + 1); omega, by rw [hf, foldW_next (by omega)]⟩, by show (lostP v.peers).length - (i + 1) < (lostP v.peers).length - i; omega, ?_⟩
            (repeat' (first | ((with_reducible refine body_intro ?_); (first | ((with_reducible refine seq_intro ?_ (fun Kv hN hX hR => ?_)); (next => exact rfl)) | ((with_reducible refine join_intro ?_ ?_); (next => exact rfl)) | (conv => whnf))) | with_reducible refine body_stop (fun Kv hN hX hR => ?_) | with_reducible refine Stop.mk ?_ | with_reducible refine Join.mk ⟨fun Kv hN hX hR => ?_, ?_⟩ | with_reducible refine DrawJ.each ?_ | with_reducible exact SubJ.self _ | with_reducible refine SubJ.of ?_ | with_reducible refine fill2_step (fun Kf hF => ?_) | with_reducible refine fill2_nil ?_ | with_reducible refine node2_step (fun Kg hG => ?_) | (with_reducible refine hF _ _ ?_; clear hF; clear Kf) | (with_reducible refine hG _ _ _ _ ?_; clear hG; clear Kg) | ((with_reducible refine seq_intro ?_ (fun Kv hN hX hR => ?_)); (next => exact rfl)) | ((with_reducible refine join_intro ?_ ?_); (next => exact rfl)) | (with_reducible refine hN _ ?_; (try (clear hG; clear Kg)); clear hN hX hR; clear Kv) | (with_reducible refine hX _ _ ?_; (try (clear hG; clear Kg)); clear hN hX hR; clear Kv) | (with_reducible refine hR _ ?_; (try (clear hG; clear Kg)); clear hN hX hR; clear Kv) | ((conv => whnf); first | with_reducible rfl | with_reducible exact True.intro | with_reducible intro _ | with_reducible refine And.intro ?_ ?_ | (with_reducible refine hN _ ?_; (try (clear hG; clear Kg)); clear hN hX hR; clear Kv) | (with_reducible refine hX _ _ ?_; (try (clear hG; clear Kg)); clear hN hX hR; clear Kv) | (with_reducible refine hR _ ?_; (try (clear hG; clear Kg)); clear hN hX hR; clear Kv) | with_reducible refine body_stop (fun Kv hN hX hR => ?_) | with_reducible refine Stop.mk ?_ | with_reducible refine Join.mk ⟨fun Kv hN hX hR => ?_, ?_⟩ | with_reducible refine DrawJ.each ?_ | with_reducible exact SubJ.self _ | with_reducible refine SubJ.of ?_ | with_reducible refine fill2_step (fun Kf hF => ?_) | with_reducible refine fill2_nil ?_ | with_reducible refine node2_step (fun Kg hG => ?_) | (with_reducible refine hF _ _ ?_; clear hF; clear Kf) | (with_reducible refine hG _ _ _ _ ?_; clear hG; clear Kg)))); all_goals (conv => whnf); all_goals (repeat ((try (clear hG; clear Kg)); clear hN hX hR; clear Kv))
            all_goals first
              | exact wrapI (by omega) (by omega)
              | rfl)
         | (have h := of_decide_eq_false (show decide ((i : Int) < ((lostP v.peers).length : Nat)) = false by with_reducible assumption)
            have e1 : foldW v.passive (lostP v.peers) = acc := by rw [hf, foldW_end (by omega)]
            first
              | (refine Ob.mk ?_
                 simp only [List.flatten_cons, List.flatten_nil, List.length_append, List.length_nil, namesP_len]
                 omega)
              | (rw [ht]; done)
              | (rw [ht, e1]; done)
              | (rw [ht, e1]
                 simp
                 done)
              | trace_state)
         | trace_state)
    | trace_state
end Go.Proofs.Ytmhieddhmebfhaa

/- Time that goes by, without a program: a view that may be stays one. -/
namespace Go.Proofs.Ytmhieddhmebfhaa
open Go.RowKit

theorem viewB_iff2 {v : GView} : viewB v = true ↔ peersB v.id v.peers = true ∧ passB v.passive = true ∧ v.peers.length + v.passive.length ≤ 16 ∧ ∀ x ∈ v.passive, x ≠ v.id ∧ x ∉ namesP v.peers := by
  rw [viewB_iff]
  constructor
  · rintro ⟨h1, h2, h3, h4⟩
    refine ⟨h1, h2, h3, fun x hx => ?_⟩
    have := List.any_eq_false.1 h4 x hx
    rw [odd_same h1 ((passB_iff.1 h2).2.2 x hx)] at this
    simp only [refOdd, Bool.or_eq_true, decide_eq_true_eq, not_or, hasI_iff] at this
    exact this
  · rintro ⟨h1, h2, h3, h4⟩
    refine ⟨h1, h2, h3, ?_⟩
    rw [List.any_eq_false]
    intro x hx
    rw [odd_same h1 ((passB_iff.1 h2).2.2 x hx)]
    simp only [refOdd, Bool.or_eq_true, decide_eq_true_eq, not_or, hasI_iff]
    exact h4 x hx
theorem mem_namesP {l : List GPeer} {x : Int} : x ∈ namesP l ↔ ∃ p ∈ l, p.id = x := by simp [namesP]
theorem peers_iff {b : Int} {l : List GPeer} : peersB b l = true ↔ placeB b = true ∧ l.length ≤ 16 ∧ (l.Pairwise fun p q => farI b p.id < farI b q.id) ∧ ∀ p ∈ l, peerB b p = true := by
  rw [peersB_iff, risingP_iff]
theorem names_nodup {b : Int} {l : List GPeer} (h : peersB b l = true) : (namesP l).Pairwise (· ≠ ·) := by
  have h2 := (peers_iff.1 h).2.2.1
  unfold namesP
  rw [List.pairwise_map]
  refine h2.imp fun {p q} hpq e => ?_
  rw [e] at hpq
  omega
theorem peerB_iff {b : Int} {p : GPeer} : peerB b p = true ↔ placeB p.id = true ∧ 0 ≤ p.missed ∧ p.missed < 3 ∧ 0 < farI b p.id := by
  simp [peerB]
theorem mem_leftP {l : List GPeer} {q : GPeer} : q ∈ leftP l ↔ ∃ p ∈ l, p.missed + 1 ≠ 3 ∧ q = ⟨p.id, p.missed + 1⟩ := by
  induction l with
  | nil => simp [leftP]
  | cons p l ih =>
    simp only [leftP]
    split
    · rename_i h
      rw [ih]
      constructor
      · rintro ⟨p', h1, h2⟩; exact ⟨p', List.mem_cons_of_mem _ h1, h2⟩
      · rintro ⟨p', h1, h2, h3⟩
        rcases List.mem_cons.1 h1 with rfl | h1
        · exact absurd h h2
        · exact ⟨p', h1, h2, h3⟩
    · rename_i h
      rw [List.mem_cons, ih]
      constructor
      · rintro (rfl | ⟨p', h1, h2⟩)
        · exact ⟨p, List.mem_cons_self, h, rfl⟩
        · exact ⟨p', List.mem_cons_of_mem _ h1, h2⟩
      · rintro ⟨p', h1, h2, h3⟩
        rcases List.mem_cons.1 h1 with rfl | h1
        · exact .inl h3
        · exact .inr ⟨p', h1, h2, h3⟩
theorem mem_lostP {l : List GPeer} {x : Int} : x ∈ lostP l ↔ ∃ p ∈ l, p.missed + 1 = 3 ∧ x = p.id := by
  induction l with
  | nil => simp [lostP]
  | cons p l ih =>
    simp only [lostP]
    split
    · rename_i h
      rw [List.mem_cons, ih]
      constructor
      · rintro (rfl | ⟨p', h1, h2⟩)
        · exact ⟨p, List.mem_cons_self, h, rfl⟩
        · exact ⟨p', List.mem_cons_of_mem _ h1, h2⟩
      · rintro ⟨p', h1, h2, h3⟩
        rcases List.mem_cons.1 h1 with rfl | h1
        · exact .inl h3
        · exact .inr ⟨p', h1, h2, h3⟩
    · rename_i h
      rw [ih]
      constructor
      · rintro ⟨p', h1, h2⟩; exact ⟨p', List.mem_cons_of_mem _ h1, h2⟩
      · rintro ⟨p', h1, h2, h3⟩
        rcases List.mem_cons.1 h1 with rfl | h1
        · exact absurd h2 h
        · exact ⟨p', h1, h2, h3⟩
theorem same_of_names {l : List GPeer} (h : (namesP l).Pairwise (· ≠ ·)) {p q : GPeer} (hp : p ∈ l) (hq : q ∈ l) (e : p.id = q.id) : p = q := by
  induction l with
  | nil => simp at hp
  | cons r l ih =>
    have h2 : (∀ x ∈ namesP l, r.id ≠ x) ∧ (namesP l).Pairwise (· ≠ ·) := List.pairwise_cons.1 h
    rcases List.mem_cons.1 hp with h3 | h3
    · rcases List.mem_cons.1 hq with h4 | h4
      · rw [h3, h4]
      · subst h3
        exact absurd e (h2.1 _ (mem_namesP.2 ⟨q, h4, rfl⟩))
    · rcases List.mem_cons.1 hq with h4 | h4
      · subst h4
        exact absurd e.symm (h2.1 _ (mem_namesP.2 ⟨p, h3, rfl⟩))
      · exact ih h2.2 h3 h4
theorem passB_insP' {l : List Int} {x : Int} (h : passB l = true) (hx : placeB x = true) (hn : hasI l x = false) (hl : l.length ≠ 16) : passB (insP l x) = true := by
  rw [passB_iff] at h ⊢
  refine ⟨by rw [insP_len]; omega, ?_, ?_⟩
  · rw [rising_iff]
    refine asc_insP (rising_iff.1 h.2.1) fun hm => ?_
    rw [hasI_iff.2 hm] at hn
    exact absurd hn (by simp)
  · intro y hy
    rcases mem_insP.1 hy with rfl | hy
    · exact hx
    · exact h.2.2 y hy
theorem lostP_nodup {l : List GPeer} (h : (namesP l).Pairwise (· ≠ ·)) : (lostP l).Pairwise (· ≠ ·) := by
  induction l with
  | nil => simp [lostP]
  | cons p l ih =>
    have h2 : (∀ x ∈ namesP l, p.id ≠ x) ∧ (namesP l).Pairwise (· ≠ ·) := List.pairwise_cons.1 h
    simp only [lostP]
    split
    · rw [List.pairwise_cons]
      refine ⟨fun x hx => ?_, ih h2.2⟩
      obtain ⟨q, hq, _, rfl⟩ := mem_lostP.1 hx
      exact h2.1 _ (mem_namesP.2 ⟨q, hq, rfl⟩)
    · exact ih h2.2
theorem leftP_rising {b : Int} {l : List GPeer} (h : l.Pairwise fun p q => farI b p.id < farI b q.id) : (leftP l).Pairwise fun p q => farI b p.id < farI b q.id := by
  induction l with
  | nil => simp [leftP]
  | cons p l ih =>
    rw [List.pairwise_cons] at h
    simp only [leftP]
    split
    · exact ih h.2
    · rw [List.pairwise_cons]
      refine ⟨fun q hq => ?_, ih h.2⟩
      obtain ⟨p', h1, _, rfl⟩ := mem_leftP.1 hq
      exact h.1 p' h1
theorem leftP_peers {b : Int} {l : List GPeer} (h : peersB b l = true) : peersB b (leftP l) = true := by
  rw [peers_iff] at h ⊢
  refine ⟨h.1, Nat.le_trans (leftP_len l) h.2.1, leftP_rising h.2.2.1, fun q hq => ?_⟩
  obtain ⟨p, h1, h2, rfl⟩ := mem_leftP.1 hq
  have := peerB_iff.1 (h.2.2.2 p h1)
  rw [peerB_iff]
  exact ⟨this.1, by show 0 ≤ p.missed + 1; omega, by show p.missed + 1 < 3; omega, this.2.2.2⟩
theorem foldW_ok : ∀ {l acc : List Int}, passB acc = true → (∀ x ∈ l, placeB x = true) → l.Pairwise (· ≠ ·) → (∀ x ∈ l, x ∉ acc) → acc.length + l.length ≤ 16 →
    passB (foldW acc l) = true ∧ (foldW acc l).length = acc.length + l.length ∧ ∀ y, y ∈ foldW acc l ↔ y ∈ acc ∨ y ∈ l
  | [], acc, h, _, _, _, _ => ⟨h, rfl, fun y => by simp [foldW]⟩
  | x :: l, acc, h, hp, hd, hn, hl => by
    rw [List.pairwise_cons] at hd
    simp only [List.length_cons] at hl
    have hx := hp x List.mem_cons_self
    have hh : hasI acc x = false := by
      cases e : hasI acc x with
      | false => rfl
      | true => exact absurd (hasI_iff.1 e) (hn x List.mem_cons_self)
    have hw := withP_yes h hx hh (by omega)
    obtain ⟨h1, h2, h3⟩ := foldW_ok (acc := insP acc x) (l := l) (passB_insP' h hx hh (by omega)) (fun y hy => hp y (List.mem_cons_of_mem _ hy)) hd.2 (fun y hy hm => by
      rcases mem_insP.1 hm with e | hm
      · exact hd.1 y hy e.symm
      · exact hn y (List.mem_cons_of_mem _ hy) hm) (by rw [insP_len]; omega)
    rw [insP_len] at h2
    simp only [foldW, hw]
    refine ⟨h1, by rw [h2]; simp; omega, fun y => ?_⟩
    rw [h3, mem_insP]
    simp only [List.mem_cons]
    constructor
    · rintro ((h | h) | h)
      · exact .inr (.inl h)
      · exact .inl h
      · exact .inr (.inr h)
    · rintro (h | h | h)
      · exact .inl (.inr h)
      · exact .inl (.inl h)
      · exact .inr h
/-- What a tick leaves. -/
theorem tick_ok {v : GView} (h : viewB v = true) : viewB (tickV v).1 = true ∧ (tickV v).1.id = v.id ∧ (tickV v).1.peers = leftP v.peers ∧ (tickV v).1.passive = foldW v.passive (lostP v.peers) ∧ (tickV v).2.1 = namesP (leftP v.peers) ++ (tickV v).1.passive ∧
    (tickV v).2.2 = 0 ∧ (tickV v).1.peers.length + (tickV v).1.passive.length = v.peers.length + v.passive.length ∧ ∀ y, y ∈ (tickV v).1.passive ↔ y ∈ v.passive ∨ y ∈ lostP v.peers := by
  have hv := viewB_iff2.1 h
  have ht := tickV_yes h
  have hp := peers_iff.1 hv.1
  obtain ⟨f1, f2, f3⟩ := foldW_ok (l := lostP v.peers) hv.2.1 (fun x hx => by
    obtain ⟨p, h1, _, rfl⟩ := mem_lostP.1 hx
    exact (peerB_iff.1 (hp.2.2.2 p h1)).1) (lostP_nodup (names_nodup hv.1)) (fun x hx hm => by
    obtain ⟨p, h1, _, rfl⟩ := mem_lostP.1 hx
    exact (hv.2.2.2 _ hm).2 (mem_namesP.2 ⟨p, h1, rfl⟩)) (by have := lostP_len v.peers; omega)
  have hl := leftlost_len v.peers
  rw [ht]
  refine ⟨viewB_iff2.2 ⟨leftP_peers hv.1, f1, ?_, ?_⟩, rfl, rfl, rfl, rfl, rfl, ?_, f3⟩
  · show (leftP v.peers).length + (foldW v.passive (lostP v.peers)).length ≤ 16
    rw [f2]
    omega
  · intro x hx
    show x ≠ v.id ∧ x ∉ namesP (leftP v.peers)
    rcases (f3 x).1 hx with h1 | h1
    · refine ⟨(hv.2.2.2 x h1).1, fun hm => ?_⟩
      obtain ⟨q, hq, rfl⟩ := mem_namesP.1 hm
      obtain ⟨p, h3, _, rfl⟩ := mem_leftP.1 hq
      exact (hv.2.2.2 _ h1).2 (mem_namesP.2 ⟨p, h3, rfl⟩)
    · obtain ⟨p, h2, h3, rfl⟩ := mem_lostP.1 h1
      have hpb := peerB_iff.1 (hp.2.2.2 p h2)
      refine ⟨fun e => ?_, fun hm => ?_⟩
      · have := (far_pos hp.1 hpb.1).1.1 hpb.2.2.2
        exact this e
      · obtain ⟨q, hq, hqe⟩ := mem_namesP.1 hm
        obtain ⟨p', h4, h5, rfl⟩ := mem_leftP.1 hq
        have : p' = p := by
          have hnd := names_nodup hv.1
          exact same_of_names hnd h4 h2 hqe
        subst this
        exact h5 h3
  · show (leftP v.peers).length + (foldW v.passive (lostP v.peers)).length = _
    rw [f2]
    omega
end Go.Proofs.Ytmhieddhmebfhaa

/- Contracts: time that goes by: the document's. -/
namespace Go.Proofs.Ytmhieddhmebfhaa
open Go.RowKit
end Go.Proofs.Ytmhieddhmebfhaa

/- Contracts: the least distance. -/
namespace Go.Proofs.Ytmhieddhmebfhaa
open Go.RowKit
/-- The place of a whole number. -/
def dPInt : Dec Int := ⟨fun x => match x with
  | .pt .any [.int .i64 n] => some n
  | _ => none, fun n => .pt .any [.int .i64 n], fun x a h => by
    split at h <;> simp at h; subst h; rfl⟩
/-- A function that has a number's place. -/
def dFnInt (f : FuncId) : Dec Int := ⟨fun x => match x with
  | .clo g [] [.pt .any [.int .i64 n]] => if g = f then some n else none
  | _ => none, fun n => .clo f [] [.pt .any [.int .i64 n]], fun x a h => by
    split at h
    · split at h
      · rename_i g n hg; simp at h; subst h; subst hg; rfl
      · simp at h
    · simp at h⟩
theorem k_By1 : Known Try.prog tau 121 (S3 dInt dInt dPInt fun a b k => .ok (.int .i64 (cmpI (farI k a) (farI k b))) []) := by
  refine known3 hmix tau_ok (ctx_cons k_Far (ctx_cons k_cmpCompare ctx_nil)) (fn := Try.f121) (by kernel_rfl) [(1, [(0, 0), (1, 0), (2, 3), (3, 0), (4, 0), (5, 28), (6, 36), (7, 127)])] (by kernel_rfl) _ _ _ _ fun a b k hfit => ⟨rfl, [], ?_⟩
  clear hfit
  (repeat' (first | ((with_reducible refine body_intro ?_); (first | ((with_reducible refine seq_intro ?_ (fun Kv hN hX hR => ?_)); (next => exact rfl)) | ((with_reducible refine join_intro ?_ ?_); (next => exact rfl)) | (conv => whnf))) | with_reducible refine body_stop (fun Kv hN hX hR => ?_) | with_reducible refine Stop.mk ?_ | with_reducible refine Join.mk ⟨fun Kv hN hX hR => ?_, ?_⟩ | with_reducible apply DrawJ.join | with_reducible exact SubJ.self _ | ((with_reducible refine SubJ.of ?_); (repeat' (first | with_reducible rfl | ((conv => whnf) <;> (first | with_reducible exact True.intro | with_reducible refine And.intro ?_ ?_ | with_reducible rfl | ((conv => rhs; whnf) <;> with_reducible rfl))))); done) | with_reducible refine fill2_step (fun Kf hF => ?_) | with_reducible refine fill2_nil ?_ | with_reducible refine node2_step (fun Kg hG => ?_) | (with_reducible refine hF _ _ ?_; clear hF; clear Kf) | (with_reducible refine hG _ _ _ _ ?_; clear hG; clear Kg) | ((with_reducible refine seq_intro ?_ (fun Kv hN hX hR => ?_)); (next => exact rfl)) | ((with_reducible refine join_intro ?_ ?_); (next => exact rfl)) | (with_reducible refine hN _ ?_; (try (clear hG; clear Kg)); clear hN hX hR; clear Kv) | (with_reducible refine hX _ _ ?_; (try (clear hG; clear Kg)); clear hN hX hR; clear Kv) | (with_reducible refine hR _ ?_; (try (clear hG; clear Kg)); clear hN hX hR; clear Kv) | ((conv => whnf); first | with_reducible rfl | with_reducible exact True.intro | with_reducible intro _ | with_reducible refine And.intro ?_ ?_ | (with_reducible refine hN _ ?_; (try (clear hG; clear Kg)); clear hN hX hR; clear Kv) | (with_reducible refine hX _ _ ?_; (try (clear hG; clear Kg)); clear hN hX hR; clear Kv) | (with_reducible refine hR _ ?_; (try (clear hG; clear Kg)); clear hN hX hR; clear Kv) | with_reducible refine body_stop (fun Kv hN hX hR => ?_) | with_reducible refine Stop.mk ?_ | with_reducible refine Join.mk ⟨fun Kv hN hX hR => ?_, ?_⟩ | with_reducible apply DrawJ.join | with_reducible exact SubJ.self _ | ((with_reducible refine SubJ.of ?_); (repeat' (first | with_reducible rfl | ((conv => whnf) <;> (first | with_reducible exact True.intro | with_reducible refine And.intro ?_ ?_ | with_reducible rfl | ((conv => rhs; whnf) <;> with_reducible rfl))))); done) | with_reducible refine fill2_step (fun Kf hF => ?_) | with_reducible refine fill2_nil ?_ | with_reducible refine node2_step (fun Kg hG => ?_) | (with_reducible refine hF _ _ ?_; clear hF; clear Kf) | (with_reducible refine hG _ _ _ _ ?_; clear hG; clear Kg)))); all_goals (conv => whnf); all_goals (repeat ((try (clear hG; clear Kg)); clear hN hX hR; clear Kv))
  all_goals first
    | rfl
    | trace_state
theorem t_By : TrKnown Try.prog tau 116 (inlT tau (mkCtx []) [] [] Try.f116) := inl_ok hmix tau_ok ctx_nil (by kernel_rfl) [] (by kernel_rfl) []
/-- The one that is least far on from a place. -/
def minP (k : Int) : Int → List Int → Int
  | b, [] => b
  | b, x :: l => minP k (if farI k x < farI k b then x else b) l
theorem minP_next {k b : Int} {l : List Int} {i : Nat} (h : i < l.length) : minP k b (l.drop i) = minP k (if farI k (l.getD i 0) < farI k b then l.getD i 0 else b) (l.drop (i + 1)) := by
  rw [drop_one_more (d := 0) h, minP]
theorem minP_end {k b : Int} {l : List Int} {i : Nat} (h : ¬ i < l.length) : minP k b (l.drop i) = b := by
  rw [List.drop_eq_nil_of_le (by omega)]
  rfl
set_option maxHeartbeats 1000000 in
theorem k_MinFunc : Known Try.prog tau 115 (S2 dInts (dFnInt 121) fun l k => .ob (0 < l.length) (.int .i64 (minP k (l.getD 0 0) (l.drop 1))) []) := by
  refine known2 hmix tau_ok (ctx_cons k_By1 ctx_nil) (fn := Try.f115) (by kernel_rfl) [] (by kernel_rfl) _ _ _ fun l k hfit hs => ⟨rfl,
    [(5, invX (Nat × Int) [5, 6, 14, 15, 16, 17, 18, 19, 20, 21, 22, 23, 24, 25, 26, 27, 28, 29, 30, 31] [] (fun g => 1 ≤ g.1 ∧ g.1 ≤ l.length ∧ minP k (l.getD 0 0) (l.drop 1) = minP k g.2 (l.drop g.1)) (fun g => match g with
      | (i, b) => withS [(6, .int .i64 i), (5, .int .i64 b)]) (fun g => l.length - g.1))], ?_⟩
  have hlen : l.length * 8 ≤ 140737488355328 := hfit.1
  clear hfit
  (repeat' (first | ((with_reducible refine body_intro ?_); (first | ((with_reducible refine seq_intro ?_ (fun Kv hN hX hR => ?_)); (next => exact rfl)) | ((with_reducible refine join_intro ?_ ?_); (next => exact rfl)) | (conv => whnf))) | with_reducible refine body_stop (fun Kv hN hX hR => ?_) | with_reducible refine Stop.mk ?_ | with_reducible refine Join.mk ⟨fun Kv hN hX hR => ?_, ?_⟩ | with_reducible refine DrawJ.each ?_ | with_reducible exact SubJ.self _ | with_reducible refine SubJ.of ?_ | with_reducible refine fill2_step (fun Kf hF => ?_) | with_reducible refine fill2_nil ?_ | with_reducible refine node2_step (fun Kg hG => ?_) | (with_reducible refine hF _ _ ?_; clear hF; clear Kf) | (with_reducible refine hG _ _ _ _ ?_; clear hG; clear Kg) | ((with_reducible refine seq_intro ?_ (fun Kv hN hX hR => ?_)); (next => exact rfl)) | ((with_reducible refine join_intro ?_ ?_); (next => exact rfl)) | (with_reducible refine hN _ ?_; (try (clear hG; clear Kg)); clear hN hX hR; clear Kv) | (with_reducible refine hX _ _ ?_; (try (clear hG; clear Kg)); clear hN hX hR; clear Kv) | (with_reducible refine hR _ ?_; (try (clear hG; clear Kg)); clear hN hX hR; clear Kv) | ((conv => whnf); first | with_reducible rfl | with_reducible exact True.intro | with_reducible refine (fun (_ : (_ : Prop)) => ?_) | with_reducible refine And.intro ?_ ?_ | (with_reducible refine hN _ ?_; (try (clear hG; clear Kg)); clear hN hX hR; clear Kv) | (with_reducible refine hX _ _ ?_; (try (clear hG; clear Kg)); clear hN hX hR; clear Kv) | (with_reducible refine hR _ ?_; (try (clear hG; clear Kg)); clear hN hX hR; clear Kv) | with_reducible refine body_stop (fun Kv hN hX hR => ?_) | with_reducible refine Stop.mk ?_ | with_reducible refine Join.mk ⟨fun Kv hN hX hR => ?_, ?_⟩ | with_reducible refine DrawJ.each ?_ | with_reducible exact SubJ.self _ | with_reducible refine SubJ.of ?_ | with_reducible refine fill2_step (fun Kf hF => ?_) | with_reducible refine fill2_nil ?_ | with_reducible refine node2_step (fun Kg hG => ?_) | (with_reducible refine hF _ _ ?_; clear hF; clear Kf) | (with_reducible refine hG _ _ _ _ ?_; clear hG; clear Kg)))); all_goals (conv => whnf); all_goals (repeat ((try (clear hG; clear Kg)); clear hN hX hR; clear Kv))
  all_goals first
    | (exfalso
       have h := of_decide_eq_true (show decide ((l.length : Int) < 1) = true by with_reducible assumption)
       omega)
    | exact Ob.mk ⟨by decide, by omega⟩
    | (refine ⟨(1, l.getD 0 0), ⟨Nat.le_refl _, hs, rfl⟩, ?_⟩
       (repeat' (first | ((with_reducible refine body_intro ?_); (first | ((with_reducible refine seq_intro ?_ (fun Kv hN hX hR => ?_)); (next => exact rfl)) | ((with_reducible refine join_intro ?_ ?_); (next => exact rfl)) | (conv => whnf))) | with_reducible refine body_stop (fun Kv hN hX hR => ?_) | with_reducible refine Stop.mk ?_ | with_reducible refine Join.mk ⟨fun Kv hN hX hR => ?_, ?_⟩ | with_reducible refine DrawJ.each ?_ | with_reducible exact SubJ.self _ | with_reducible refine SubJ.of ?_ | with_reducible refine fill2_step (fun Kf hF => ?_) | with_reducible refine fill2_nil ?_ | with_reducible refine node2_step (fun Kg hG => ?_) | (with_reducible refine hF _ _ ?_; clear hF; clear Kf) | (with_reducible refine hG _ _ _ _ ?_; clear hG; clear Kg) | ((with_reducible refine seq_intro ?_ (fun Kv hN hX hR => ?_)); (next => exact rfl)) | ((with_reducible refine join_intro ?_ ?_); (next => exact rfl)) | (with_reducible refine hN _ ?_; (try (clear hG; clear Kg)); clear hN hX hR; clear Kv) | (with_reducible refine hX _ _ ?_; (try (clear hG; clear Kg)); clear hN hX hR; clear Kv) | (with_reducible refine hR _ ?_; (try (clear hG; clear Kg)); clear hN hX hR; clear Kv) | ((conv => whnf); first | with_reducible rfl | with_reducible exact True.intro | with_reducible intro _ | with_reducible refine And.intro ?_ ?_ | (with_reducible refine hN _ ?_; (try (clear hG; clear Kg)); clear hN hX hR; clear Kv) | (with_reducible refine hX _ _ ?_; (try (clear hG; clear Kg)); clear hN hX hR; clear Kv) | (with_reducible refine hR _ ?_; (try (clear hG; clear Kg)); clear hN hX hR; clear Kv) | with_reducible refine body_stop (fun Kv hN hX hR => ?_) | with_reducible refine Stop.mk ?_ | with_reducible refine Join.mk ⟨fun Kv hN hX hR => ?_, ?_⟩ | with_reducible refine DrawJ.each ?_ | with_reducible exact SubJ.self _ | with_reducible refine SubJ.of ?_ | with_reducible refine fill2_step (fun Kf hF => ?_) | with_reducible refine fill2_nil ?_ | with_reducible refine node2_step (fun Kg hG => ?_) | (with_reducible refine hF _ _ ?_; clear hF; clear Kf) | (with_reducible refine hG _ _ _ _ ?_; clear hG; clear Kg)))); all_goals (conv => whnf); all_goals (repeat ((try (clear hG; clear Kg)); clear hN hX hR; clear Kv))
       all_goals rfl)
    | (rintro ⟨i, b⟩ ⟨h1, h2, h3⟩
       dsimp only at h1 h2 h3
       (repeat' (first | ((with_reducible refine body_intro ?_); (first | ((with_reducible refine seq_intro ?_ (fun Kv hN hX hR => ?_)); (next => exact rfl)) | ((with_reducible refine join_intro ?_ ?_); (next => exact rfl)) | (conv => whnf))) | with_reducible refine body_stop (fun Kv hN hX hR => ?_) | with_reducible refine Stop.mk ?_ | with_reducible refine Join.mk ⟨fun Kv hN hX hR => ?_, ?_⟩ | with_reducible refine DrawJ.each ?_ | with_reducible exact SubJ.self _ | with_reducible refine SubJ.of ?_ | with_reducible refine fill2_step (fun Kf hF => ?_) | with_reducible refine fill2_nil ?_ | with_reducible refine node2_step (fun Kg hG => ?_) | (with_reducible refine hF _ _ ?_; clear hF; clear Kf) | (with_reducible refine hG _ _ _ _ ?_; clear hG; clear Kg) | ((with_reducible refine seq_intro ?_ (fun Kv hN hX hR => ?_)); (next => exact rfl)) | ((with_reducible refine join_intro ?_ ?_); (next => exact rfl)) | (with_reducible refine hN _ ?_; (try (clear hG; clear Kg)); clear hN hX hR; clear Kv) | (with_reducible refine hX _ _ ?_; (try (clear hG; clear Kg)); clear hN hX hR; clear Kv) | (with_reducible refine hR _ ?_; (try (clear hG; clear Kg)); clear hN hX hR; clear Kv) | ((conv => whnf); first | with_reducible rfl | with_reducible exact True.intro | with_reducible intro _ | with_reducible refine And.intro ?_ ?_ | (with_reducible refine hN _ ?_; (try (clear hG; clear Kg)); clear hN hX hR; clear Kv) | (with_reducible refine hX _ _ ?_; (try (clear hG; clear Kg)); clear hN hX hR; clear Kv) | (with_reducible refine hR _ ?_; (try (clear hG; clear Kg)); clear hN hX hR; clear Kv) | with_reducible refine body_stop (fun Kv hN hX hR => ?_) | with_reducible refine Stop.mk ?_ | with_reducible refine Join.mk ⟨fun Kv hN hX hR => ?_, ?_⟩ | with_reducible refine DrawJ.each ?_ | with_reducible exact SubJ.self _ | with_reducible refine SubJ.of ?_ | with_reducible refine fill2_step (fun Kf hF => ?_) | with_reducible refine fill2_nil ?_ | with_reducible refine node2_step (fun Kg hG => ?_) | (with_reducible refine hF _ _ ?_; clear hF; clear Kf) | (with_reducible refine hG _ _ _ _ ?_; clear hG; clear Kg)))); all_goals (conv => whnf); all_goals (repeat ((try (clear hG; clear Kg)); clear hN hX hR; clear Kv))
       all_goals (try dsimp only at *)
       all_goals (try simp only [Int.toNat_natCast, cmpI_lt] at *)
       all_goals first
         | exact Ob.mk ⟨by omega, of_decide_eq_true (by with_reducible assumption)⟩
         | (have h := of_decide_eq_true (show decide ((i : Int) < (l.length : Nat)) = true by with_reducible assumption)
            have e1 := minP_next (k := k) (b := b) (l := l) (i := i) (by omega)
            first
              | (have h4 := of_decide_eq_true (show decide (farI k (l.getD i 0) < farI k b) = true by with_reducible assumption)
                 rw [if_pos h4] at e1
                 refine ⟨(i + 1, l.getD i 0), ⟨by show 1 ≤ i + 1; omega, by show i + 1 ≤ l.length; omega, h3.trans e1⟩, by show l.length - (i + 1) < l.length - i; omega, ?_⟩
                 (repeat' (first | ((with_reducible refine body_intro ?_); (first | ((with_reducible refine seq_intro ?_ (fun Kv hN hX hR => ?_)); (next => exact rfl)) | ((with_reducible refine join_intro ?_ ?_); (next => exact rfl)) | (conv => whnf))) | with_reducible refine body_stop (fun Kv hN hX hR => ?_) | with_reducible refine Stop.mk ?_ | with_reducible refine Join.mk ⟨fun Kv hN hX hR => ?_, ?_⟩ | with_reducible refine DrawJ.each ?_ | with_reducible exact SubJ.self _ | with_reducible refine SubJ.of ?_ | with_reducible refine fill2_step (fun Kf hF => ?_) | with_reducible refine fill2_nil ?_ | with_reducible refine node2_step (fun Kg hG => ?_) | (with_reducible refine hF _ _ ?_; clear hF; clear Kf) | (with_reducible refine hG _ _ _ _ ?_; clear hG; clear Kg) | ((with_reducible refine seq_intro ?_ (fun Kv hN hX hR => ?_)); (next => exact rfl)) | ((with_reducible refine join_intro ?_ ?_); (next => exact rfl)) | (with_reducible refine hN _ ?_; (try (clear hG; clear Kg)); clear hN hX hR; clear Kv) | (with_reducible refine hX _ _ ?_; (try (clear hG; clear Kg)); clear hN hX hR; clear Kv) | (with_reducible refine hR _ ?_; (try (clear hG; clear Kg)); clear hN hX hR; clear Kv) | ((conv => whnf); first | with_reducible rfl | with_reducible exact True.intro | with_reducible intro _ | with_reducible refine And.intro ?_ ?_ | (with_reducible refine hN _ ?_; (try (clear hG; clear Kg)); clear hN hX hR; clear Kv) | (with_reducible refine hX _ _ ?_; (try (clear hG; clear Kg)); clear hN hX hR; clear Kv) | (with_reducible refine hR _ ?_; (try (clear hG; clear Kg)); clear hN hX hR; clear Kv) | with_reducible refine body_stop (fun Kv hN hX hR => ?_) | with_reducible refine Stop.mk ?_ | with_reducible refine Join.mk ⟨fun Kv hN hX hR => ?_, ?_⟩ | with_reducible refine DrawJ.each ?_ | with_reducible exact SubJ.self _ | with_reducible refine SubJ.of ?_ | with_reducible refine fill2_step (fun Kf hF => ?_) | with_reducible refine fill2_nil ?_ | with_reducible refine node2_step (fun Kg hG => ?_) | (with_reducible refine hF _ _ ?_; clear hF; clear Kf) | (with_reducible refine hG _ _ _ _ ?_; clear hG; clear Kg)))); all_goals (conv => whnf); all_goals (repeat ((try (clear hG; clear Kg)); clear hN hX hR; clear Kv))
                 all_goals first
                   | exact wrapI (by omega) (by omega)
                   | rfl)
              | (have h4 := of_decide_eq_false (show decide (farI k (l.getD i 0) < farI k b) = false by with_reducible assumption)
                 rw [if_neg h4] at e1
                 refine ⟨(i + 1, b), ⟨by show 1 ≤ i + 1; omega, by show i + 1 ≤ l.length; omega, h3.trans e1⟩, by show l.length - (i + 1) < l.length - i; omega, ?_⟩
                 (repeat' (first | ((with_reducible refine body_intro ?_); (first | ((with_reducible refine seq_intro ?_ (fun Kv hN hX hR => ?_)); (next => exact rfl)) | ((with_reducible refine join_intro ?_ ?_); (next => exact rfl)) | (conv => whnf))) | with_reducible refine body_stop (fun Kv hN hX hR => ?_) | with_reducible refine Stop.mk ?_ | with_reducible refine Join.mk ⟨fun Kv hN hX hR => ?_, ?_⟩ | with_reducible refine DrawJ.each ?_ | with_reducible exact SubJ.self _ | with_reducible refine SubJ.of ?_ | with_reducible refine fill2_step (fun Kf hF => ?_) | with_reducible refine fill2_nil ?_ | with_reducible refine node2_step (fun Kg hG => ?_) | (with_reducible refine hF _ _ ?_; clear hF; clear Kf) | (with_reducible refine hG _ _ _ _ ?_; clear hG; clear Kg) | ((with_reducible refine seq_intro ?_ (fun Kv hN hX hR => ?_)); (next => exact rfl)) | ((with_reducible refine join_intro ?_ ?_); (next => exact rfl)) | (with_reducible refine hN _ ?_; (try (clear hG; clear Kg)); clear hN hX hR; clear Kv) | (with_reducible refine hX _ _ ?_; (try (clear hG; clear Kg)); clear hN hX hR; clear Kv) | (with_reducible refine hR _ ?_; (try (clear hG; clear Kg)); clear hN hX hR; clear Kv) | ((conv => whnf); first | with_reducible rfl | with_reducible exact True.intro | with_reducible intro _ | with_reducible refine And.intro ?_ ?_ | (with_reducible refine hN _ ?_; (try (clear hG; clear Kg)); clear hN hX hR; clear Kv) | (with_reducible refine hX _ _ ?_; (try (clear hG; clear Kg)); clear hN hX hR; clear Kv) | (with_reducible refine hR _ ?_; (try (clear hG; clear Kg)); clear hN hX hR; clear Kv) | with_reducible refine body_stop (fun Kv hN hX hR => ?_) | with_reducible refine Stop.mk ?_ | with_reducible refine Join.mk ⟨fun Kv hN hX hR => ?_, ?_⟩ | with_reducible refine DrawJ.each ?_ | with_reducible exact SubJ.self _ | with_reducible refine SubJ.of ?_ | with_reducible refine fill2_step (fun Kf hF => ?_) | with_reducible refine fill2_nil ?_ | with_reducible refine node2_step (fun Kg hG => ?_) | (with_reducible refine hF _ _ ?_; clear hF; clear Kf) | (with_reducible refine hG _ _ _ _ ?_; clear hG; clear Kg)))); all_goals (conv => whnf); all_goals (repeat ((try (clear hG; clear Kg)); clear hN hX hR; clear Kv))
                 all_goals first
                   | exact wrapI (by omega) (by omega)
                   | rfl))
         | (have h := of_decide_eq_false (show decide ((i : Int) < (l.length : Nat)) = false by with_reducible assumption)
            rw [h3, minP_end (by omega)])
         | trace_state)
    | trace_state
def rowMayB (k : Int) (l : List Int) : Bool := placeB k && (decide (l.length ≤ 64) && l.all placeB)
theorem k_rowMay : Known Try.prog tau 114 (S2 dInt dInts fun k l => okB (rowMayB k l)) := by
  refine known2 hmix tau_ok (ctx_cons k_Place (ctx_cons k_Places ctx_nil)) (fn := Try.f114) (by kernel_rfl) [] (by kernel_rfl) _ _ _ fun k l hfit => ⟨rfl, [], ?_⟩
  clear hfit
  (repeat' (first | ((with_reducible refine body_intro ?_); (first | ((with_reducible refine seq_intro ?_ (fun Kv hN hX hR => ?_)); (next => exact rfl)) | ((with_reducible refine join_intro ?_ ?_); (next => exact rfl)) | (conv => whnf))) | with_reducible refine body_stop (fun Kv hN hX hR => ?_) | with_reducible refine Stop.mk ?_ | with_reducible refine Join.mk ⟨fun Kv hN hX hR => ?_, ?_⟩ | with_reducible refine DrawJ.each ?_ | with_reducible exact SubJ.self _ | with_reducible refine SubJ.of ?_ | with_reducible refine fill2_step (fun Kf hF => ?_) | with_reducible refine fill2_nil ?_ | with_reducible refine node2_step (fun Kg hG => ?_) | (with_reducible refine hF _ _ ?_; clear hF; clear Kf) | (with_reducible refine hG _ _ _ _ ?_; clear hG; clear Kg) | ((with_reducible refine seq_intro ?_ (fun Kv hN hX hR => ?_)); (next => exact rfl)) | ((with_reducible refine join_intro ?_ ?_); (next => exact rfl)) | (with_reducible refine hN _ ?_; (try (clear hG; clear Kg)); clear hN hX hR; clear Kv) | (with_reducible refine hX _ _ ?_; (try (clear hG; clear Kg)); clear hN hX hR; clear Kv) | (with_reducible refine hR _ ?_; (try (clear hG; clear Kg)); clear hN hX hR; clear Kv) | ((conv => whnf); first | with_reducible rfl | with_reducible exact True.intro | with_reducible intro _ | with_reducible refine And.intro ?_ ?_ | (with_reducible refine hN _ ?_; (try (clear hG; clear Kg)); clear hN hX hR; clear Kv) | (with_reducible refine hX _ _ ?_; (try (clear hG; clear Kg)); clear hN hX hR; clear Kv) | (with_reducible refine hR _ ?_; (try (clear hG; clear Kg)); clear hN hX hR; clear Kv) | with_reducible refine body_stop (fun Kv hN hX hR => ?_) | with_reducible refine Stop.mk ?_ | with_reducible refine Join.mk ⟨fun Kv hN hX hR => ?_, ?_⟩ | with_reducible refine DrawJ.each ?_ | with_reducible exact SubJ.self _ | with_reducible refine SubJ.of ?_ | with_reducible refine fill2_step (fun Kf hF => ?_) | with_reducible refine fill2_nil ?_ | with_reducible refine node2_step (fun Kg hG => ?_) | (with_reducible refine hF _ _ ?_; clear hF; clear Kf) | (with_reducible refine hG _ _ _ _ ?_; clear hG; clear Kg)))); all_goals (conv => whnf); all_goals (repeat ((try (clear hG; clear Kg)); clear hN hX hR; clear Kv))
  all_goals first
    | (have h1 : placeB k = true := by with_reducible assumption
       have h2 := of_decide_eq_true (show decide ((l.length : Int) ≤ 64) = true by with_reducible assumption)
       unfold rowMayB
       rw [h1, decide_eq_true (show l.length ≤ 64 by omega)]
       simp
       done)
    | (have h2 := of_decide_eq_false (show decide ((l.length : Int) ≤ 64) = false by with_reducible assumption)
       unfold rowMayB
       rw [decide_eq_false (show ¬ l.length ≤ 64 by omega)]
       simp
       done)
    | (have h1 : placeB k = false := by with_reducible assumption
       unfold rowMayB
       rw [h1]
       rfl)
    | trace_state
noncomputable def ownP (l : List Int) (k : Int) : Int × Int := Classical.choose (seal_ex (if rowMayB k l = true ∧ 0 < l.length then (minP k (l.getD 0 0) (l.drop 1), (0 : Int)) else (0, 200)))
theorem ownP_def (l : List Int) (k : Int) : ownP l k = if rowMayB k l = true ∧ 0 < l.length then (minP k (l.getD 0 0) (l.drop 1), 0) else (0, 200) := Classical.choose_spec (seal_ex _)
theorem ownP_yes {l : List Int} {k : Int} (h : rowMayB k l = true) (h2 : 0 < l.length) : ownP l k = (minP k (l.getD 0 0) (l.drop 1), 0) := by rw [ownP_def, if_pos ⟨h, h2⟩]
theorem ownP_no {l : List Int} {k : Int} (h : rowMayB k l = false ∨ l.length = 0) : ownP l k = (0, 200) := by
  rw [ownP_def, if_neg]
  rintro ⟨h1, h2⟩
  rcases h with h | h
  · rw [h1] at h; simp at h
  · omega
noncomputable def oOwn (l : List Int) (k : Int) : Out := .ok (.tup [.int .i64 (ownP l k).1, .int .i64 (ownP l k).2]) []
theorem k_rowOwner : Known Try.prog tau 98 (S2 dInts dInt oOwn) := by
  refine knownX2 hmix tau_ok (fn := Try.f98) (by kernel_rfl) [] (by kernel_rfl) _ _ _ fun l k hfit => ⟨rfl, _, ctx_tr t_By (ctx_cons k_rowMay (ctx_cons k_MinFunc ctx_nil)), [], ?_⟩
  clear hfit
  (repeat' (first | ((with_reducible refine body_intro ?_); (first | ((with_reducible refine seq_intro ?_ (fun Kv hN hX hR => ?_)); (next => exact rfl)) | ((with_reducible refine join_intro ?_ ?_); (next => exact rfl)) | (conv => whnf))) | with_reducible refine body_stop (fun Kv hN hX hR => ?_) | with_reducible refine Stop.mk ?_ | with_reducible refine Join.mk ⟨fun Kv hN hX hR => ?_, ?_⟩ | with_reducible refine DrawJ.each ?_ | with_reducible exact SubJ.self _ | with_reducible refine SubJ.of ?_ | with_reducible refine fill2_step (fun Kf hF => ?_) | with_reducible refine fill2_nil ?_ | with_reducible refine node2_step (fun Kg hG => ?_) | (with_reducible refine hF _ _ ?_; clear hF; clear Kf) | (with_reducible refine hG _ _ _ _ ?_; clear hG; clear Kg) | ((with_reducible refine seq_intro ?_ (fun Kv hN hX hR => ?_)); (next => exact rfl)) | ((with_reducible refine join_intro ?_ ?_); (next => exact rfl)) | (with_reducible refine hN _ ?_; (try (clear hG; clear Kg)); clear hN hX hR; clear Kv) | (with_reducible refine hX _ _ ?_; (try (clear hG; clear Kg)); clear hN hX hR; clear Kv) | (with_reducible refine hR _ ?_; (try (clear hG; clear Kg)); clear hN hX hR; clear Kv) | ((conv => whnf); first | with_reducible rfl | with_reducible exact True.intro | with_reducible intro _ | with_reducible refine And.intro ?_ ?_ | (with_reducible refine hN _ ?_; (try (clear hG; clear Kg)); clear hN hX hR; clear Kv) | (with_reducible refine hX _ _ ?_; (try (clear hG; clear Kg)); clear hN hX hR; clear Kv) | (with_reducible refine hR _ ?_; (try (clear hG; clear Kg)); clear hN hX hR; clear Kv) | with_reducible refine body_stop (fun Kv hN hX hR => ?_) | with_reducible refine Stop.mk ?_ | with_reducible refine Join.mk ⟨fun Kv hN hX hR => ?_, ?_⟩ | with_reducible refine DrawJ.each ?_ | with_reducible exact SubJ.self _ | with_reducible refine SubJ.of ?_ | with_reducible refine fill2_step (fun Kf hF => ?_) | with_reducible refine fill2_nil ?_ | with_reducible refine node2_step (fun Kg hG => ?_) | (with_reducible refine hF _ _ ?_; clear hF; clear Kf) | (with_reducible refine hG _ _ _ _ ?_; clear hG; clear Kg)))); all_goals (conv => whnf); all_goals (repeat ((try (clear hG; clear Kg)); clear hN hX hR; clear Kv))
  all_goals first
    | (rw [ownP_no (.inl (nf (show (!rowMayB k l) = true by with_reducible assumption)))]; done)
    | (have h := of_decide_eq_true (show decide ((l.length : Int) = 0) = true by with_reducible assumption)
       rw [ownP_no (.inr (by omega))]
       done)
    | (have h := of_decide_eq_false (show decide ((l.length : Int) = 0) = false by with_reducible assumption)
       have h1 : rowMayB k l = true := nt (by with_reducible assumption)
       first
         | exact Ob.mk (by omega)
         | (rw [ownP_yes h1 (by omega)]; done))
    | trace_state
end Go.Proofs.Ytmhieddhmebfhaa

/- slices.Clone at one type: its walk. -/
namespace Go.Proofs.Ytmhieddhmebfhaa
open Go.RowKit
set_option maxHeartbeats 1000000 in
theorem w_CloneItems : CloneW Try.prog 57 35 5 40 := by
  obtain ⟨hk10, het, ti, hti, hsz, hby, _⟩ := tau_ok.rk 35 4 (by kernel_rfl)
  obtain ⟨x0, z, g1, g2, g3, g4, g5, g6⟩ := (tau_ok.ti _ ti hti).info
  have g2 : x0.size = 5 := g2.trans hsz
  have g3 : x0.bytes = 40 := g3.trans hby
  have g5 : z.cells.size = 5 := g5.trans hsz
  clear hk10 het g6
  have t22 : Try.prog.underlying 27 = some (.slice 35) := Try.underlying27
  have q22 : ∀ (w : World) (a : Option Addr) (n c n' c' : Nat), (binOp .eql 27 (.slice a n c) (.slice none n' c')).run Try.prog w = .ok (.bool a.isNone) w := fun w a n c n' c' => Lib.run_eql_slice_nil w _ _ a n c n' c' t22
  refine ⟨fnOk_enters (fn := Try.f57) (D := []) (by kernel_rfl) (by kernel_rfl), fun n c w => ?_, fun ad n c news w hl hn hbig hc h1 => ?_⟩
  · go_enter Try.func57, Try.ntmps57
    go_wp2
    go_ret
    exact ⟨rfl, rfl⟩
  · have A : Aside (∀ j u, news[j]? = some u → w.cell? (ad.add j) = some u) := hc
    clear hc
    go_enter Try.func57, Try.ntmps57
    go_wp2_with (at_builtin; refine wpList_append_own _ rfl _ _ 27 rfl w.heap.size 35 x0 z 5 40 t22 g1 g4 g2 g3 g5 (by decide) _ _ _ rfl (World.ownsRow_made w #[] 0 (Nat.le_refl _) (Nat.zero_le _) (by simp)) ad n c news rfl ?qc1 ?qc2 ?qc3 ?qc4 ?qc5 ?qc6 ?_)
    case qc1 => exact hl
    case qc2 =>
      intro j u hj
      exact Lib.cell?_alloc_some _ (A.out j u hj)
    case qc3 => exact h1
    case qc4 => rw [Nat.zero_add]; exact hn
    case qc5 => rw [Nat.zero_add]; exact hbig
    case qc6 => simp
    intro v' w1 hown hgrow hnil
    go_wp2
    go_ret
    refine ⟨v', rfl, by simpa using hown, ?_⟩
    exact ((Below.refl _ w).alloc (Nat.le_refl _) _).grown hgrow (by simp) (by intro k hk; simp [Value.ownBlock] at hk; omega)
theorem k_CloneItems : Known Try.prog tau 57 (S1 dItems fun l => .ok (.own 0) [.items l]) := clone_known dItems .items (fun _ => rfl) (fun _ => rfl) (kd := 4) (fun _ => rfl) w_CloneItems
end Go.Proofs.Ytmhieddhmebfhaa

/- slices.Clone at one type: its walk. -/
namespace Go.Proofs.Ytmhieddhmebfhaa
open Go.RowKit
set_option maxHeartbeats 1000000 in
theorem w_CloneTolds : CloneW Try.prog 58 66 3 24 := by
  obtain ⟨hk10, het, ti, hti, hsz, hby, _⟩ := tau_ok.rk 66 5 (by kernel_rfl)
  obtain ⟨x0, z, g1, g2, g3, g4, g5, g6⟩ := (tau_ok.ti _ ti hti).info
  have g2 : x0.size = 3 := g2.trans hsz
  have g3 : x0.bytes = 24 := g3.trans hby
  have g5 : z.cells.size = 3 := g5.trans hsz
  clear hk10 het g6
  have t22 : Try.prog.underlying 28 = some (.slice 66) := Try.underlying28
  have q22 : ∀ (w : World) (a : Option Addr) (n c n' c' : Nat), (binOp .eql 28 (.slice a n c) (.slice none n' c')).run Try.prog w = .ok (.bool a.isNone) w := fun w a n c n' c' => Lib.run_eql_slice_nil w _ _ a n c n' c' t22
  refine ⟨fnOk_enters (fn := Try.f58) (D := []) (by kernel_rfl) (by kernel_rfl), fun n c w => ?_, fun ad n c news w hl hn hbig hc h1 => ?_⟩
  · go_enter Try.func58, Try.ntmps58
    go_wp2
    go_ret
    exact ⟨rfl, rfl⟩
  · have A : Aside (∀ j u, news[j]? = some u → w.cell? (ad.add j) = some u) := hc
    clear hc
    go_enter Try.func58, Try.ntmps58
    go_wp2_with (at_builtin; refine wpList_append_own _ rfl _ _ 28 rfl w.heap.size 66 x0 z 3 24 t22 g1 g4 g2 g3 g5 (by decide) _ _ _ rfl (World.ownsRow_made w #[] 0 (Nat.le_refl _) (Nat.zero_le _) (by simp)) ad n c news rfl ?qc1 ?qc2 ?qc3 ?qc4 ?qc5 ?qc6 ?_)
    case qc1 => exact hl
    case qc2 =>
      intro j u hj
      exact Lib.cell?_alloc_some _ (A.out j u hj)
    case qc3 => exact h1
    case qc4 => rw [Nat.zero_add]; exact hn
    case qc5 => rw [Nat.zero_add]; exact hbig
    case qc6 => simp
    intro v' w1 hown hgrow hnil
    go_wp2
    go_ret
    refine ⟨v', rfl, by simpa using hown, ?_⟩
    exact ((Below.refl _ w).alloc (Nat.le_refl _) _).grown hgrow (by simp) (by intro k hk; simp [Value.ownBlock] at hk; omega)
theorem k_CloneTolds : Known Try.prog tau 58 (S1 dTolds fun l => .ok (.own 0) [.tolds l]) := clone_known dTolds .tolds (fun _ => rfl) (fun _ => rfl) (kd := 5) (fun _ => rfl) w_CloneTolds
end Go.Proofs.Ytmhieddhmebfhaa

/- Contracts: whose a key is; the next one; nodes' copies. -/
namespace Go.Proofs.Ytmhieddhmebfhaa
open Go.RowKit
theorem k_Succ1 : Known Try.prog tau 97 (S1 dInts fun l => .ob (0 < l.length) (.int .i64 (l.getD 0 0)) []) := by
  refine known1 hmix tau_ok ctx_nil (fn := Try.f97) (by kernel_rfl) [] (by kernel_rfl) _ _ fun l hfit hs => ⟨rfl, [], ?_⟩
  clear hfit
  (repeat' (first | ((with_reducible refine body_intro ?_); (first | ((with_reducible refine seq_intro ?_ (fun Kv hN hX hR => ?_)); (next => exact rfl)) | ((with_reducible refine join_intro ?_ ?_); (next => exact rfl)) | (conv => whnf))) | with_reducible refine body_stop (fun Kv hN hX hR => ?_) | with_reducible refine Stop.mk ?_ | with_reducible refine Join.mk ⟨fun Kv hN hX hR => ?_, ?_⟩ | with_reducible refine DrawJ.each ?_ | with_reducible exact SubJ.self _ | with_reducible refine SubJ.of ?_ | with_reducible refine fill2_step (fun Kf hF => ?_) | with_reducible refine fill2_nil ?_ | with_reducible refine node2_step (fun Kg hG => ?_) | (with_reducible refine hF _ _ ?_; clear hF; clear Kf) | (with_reducible refine hG _ _ _ _ ?_; clear hG; clear Kg) | ((with_reducible refine seq_intro ?_ (fun Kv hN hX hR => ?_)); (next => exact rfl)) | ((with_reducible refine join_intro ?_ ?_); (next => exact rfl)) | (with_reducible refine hN _ ?_; (try (clear hG; clear Kg)); clear hN hX hR; clear Kv) | (with_reducible refine hX _ _ ?_; (try (clear hG; clear Kg)); clear hN hX hR; clear Kv) | (with_reducible refine hR _ ?_; (try (clear hG; clear Kg)); clear hN hX hR; clear Kv) | ((conv => whnf); first | with_reducible rfl | with_reducible exact True.intro | with_reducible intro _ | with_reducible refine And.intro ?_ ?_ | (with_reducible refine hN _ ?_; (try (clear hG; clear Kg)); clear hN hX hR; clear Kv) | (with_reducible refine hX _ _ ?_; (try (clear hG; clear Kg)); clear hN hX hR; clear Kv) | (with_reducible refine hR _ ?_; (try (clear hG; clear Kg)); clear hN hX hR; clear Kv) | with_reducible refine body_stop (fun Kv hN hX hR => ?_) | with_reducible refine Stop.mk ?_ | with_reducible refine Join.mk ⟨fun Kv hN hX hR => ?_, ?_⟩ | with_reducible refine DrawJ.each ?_ | with_reducible exact SubJ.self _ | with_reducible refine SubJ.of ?_ | with_reducible refine fill2_step (fun Kf hF => ?_) | with_reducible refine fill2_nil ?_ | with_reducible refine node2_step (fun Kg hG => ?_) | (with_reducible refine hF _ _ ?_; clear hF; clear Kf) | (with_reducible refine hG _ _ _ _ ?_; clear hG; clear Kg)))); all_goals (conv => whnf); all_goals (repeat ((try (clear hG; clear Kg)); clear hN hX hR; clear Kv))
  all_goals first
    | exact Ob.mk ⟨by decide, by omega⟩
    | rfl
    | trace_state
noncomputable def succV (v : GView) : Int × Int := Classical.choose (seal_ex (if viewB v = true then (if v.peers.length = 0 then (v.id, (0 : Int)) else ((namesP v.peers).getD 0 0, 0)) else (0, 900)))
theorem succV_def (v : GView) : succV v = if viewB v = true then (if v.peers.length = 0 then (v.id, (0 : Int)) else ((namesP v.peers).getD 0 0, 0)) else (0, 900) := Classical.choose_spec (seal_ex _)
noncomputable def oSucc (v : GView) : Out := .ok (.tup [.int .i64 (succV v).1, .int .i64 (succV v).2]) []
theorem k_end : Known Try.prog tau 96 (S2 dView (dFn 97) fun v _ => oSucc v) := by
  refine known2 hmix tau_ok (ctx_cons k_viewMay (ctx_cons k_Ids (ctx_cons k_Succ1 ctx_nil))) (fn := Try.f96) (by kernel_rfl) [] (by kernel_rfl) _ _ _ fun v _ hfit => ⟨rfl, [], ?_⟩
  clear hfit
  (repeat' (first | ((with_reducible refine body_intro ?_); (first | ((with_reducible refine seq_intro ?_ (fun Kv hN hX hR => ?_)); (next => exact rfl)) | ((with_reducible refine join_intro ?_ ?_); (next => exact rfl)) | (conv => whnf))) | with_reducible refine body_stop (fun Kv hN hX hR => ?_) | with_reducible refine Stop.mk ?_ | with_reducible refine Join.mk ⟨fun Kv hN hX hR => ?_, ?_⟩ | with_reducible refine DrawJ.each ?_ | with_reducible exact SubJ.self _ | with_reducible refine SubJ.of ?_ | with_reducible refine fill2_step (fun Kf hF => ?_) | with_reducible refine fill2_nil ?_ | with_reducible refine node2_step (fun Kg hG => ?_) | (with_reducible refine hF _ _ ?_; clear hF; clear Kf) | (with_reducible refine hG _ _ _ _ ?_; clear hG; clear Kg) | ((with_reducible refine seq_intro ?_ (fun Kv hN hX hR => ?_)); (next => exact rfl)) | ((with_reducible refine join_intro ?_ ?_); (next => exact rfl)) | (with_reducible refine hN _ ?_; (try (clear hG; clear Kg)); clear hN hX hR; clear Kv) | (with_reducible refine hX _ _ ?_; (try (clear hG; clear Kg)); clear hN hX hR; clear Kv) | (with_reducible refine hR _ ?_; (try (clear hG; clear Kg)); clear hN hX hR; clear Kv) | ((conv => whnf); first | with_reducible rfl | with_reducible exact True.intro | with_reducible intro _ | with_reducible refine And.intro ?_ ?_ | (with_reducible refine hN _ ?_; (try (clear hG; clear Kg)); clear hN hX hR; clear Kv) | (with_reducible refine hX _ _ ?_; (try (clear hG; clear Kg)); clear hN hX hR; clear Kv) | (with_reducible refine hR _ ?_; (try (clear hG; clear Kg)); clear hN hX hR; clear Kv) | with_reducible refine body_stop (fun Kv hN hX hR => ?_) | with_reducible refine Stop.mk ?_ | with_reducible refine Join.mk ⟨fun Kv hN hX hR => ?_, ?_⟩ | with_reducible refine DrawJ.each ?_ | with_reducible exact SubJ.self _ | with_reducible refine SubJ.of ?_ | with_reducible refine fill2_step (fun Kf hF => ?_) | with_reducible refine fill2_nil ?_ | with_reducible refine node2_step (fun Kg hG => ?_) | (with_reducible refine hF _ _ ?_; clear hF; clear Kf) | (with_reducible refine hG _ _ _ _ ?_; clear hG; clear Kg)))); all_goals (conv => whnf); all_goals (repeat ((try (clear hG; clear Kg)); clear hN hX hR; clear Kv))
  all_goals (try simp only [etaView] at *)
  all_goals first
    | (have h : viewB v = false := nf (by with_reducible assumption)
       rw [succV_def, if_neg (by rw [h]; simp)]
       done)
    | (have h : viewB v = true := nt (by with_reducible assumption)
       have h2 := of_decide_eq_true (show decide ((v.peers.length : Int) = 0) = true by with_reducible assumption)
       rw [succV_def, if_pos h, if_pos (by omega)]
       done)
    | (have h : viewB v = true := nt (by with_reducible assumption)
       have h2 := of_decide_eq_false (show decide ((v.peers.length : Int) = 0) = false by with_reducible assumption)
       first
         | (refine Ob.mk ?_
            rw [namesP_len]
            omega)
         | (rw [succV_def, if_pos h, if_neg (by omega)]
            done))
    | trace_state
theorem k_Succ : Known Try.prog tau 63 (S1 dView oSucc) := by
  refine known1 hmix tau_ok (ctx_cons k_end ctx_nil) (fn := Try.f63) (by kernel_rfl) [] (by kernel_rfl) _ _ fun v hfit => ⟨rfl, [], ?_⟩
  clear hfit
  (repeat' (first | ((with_reducible refine body_intro ?_); (first | ((with_reducible refine seq_intro ?_ (fun Kv hN hX hR => ?_)); (next => exact rfl)) | ((with_reducible refine join_intro ?_ ?_); (next => exact rfl)) | (conv => whnf))) | with_reducible refine body_stop (fun Kv hN hX hR => ?_) | with_reducible refine Stop.mk ?_ | with_reducible refine Join.mk ⟨fun Kv hN hX hR => ?_, ?_⟩ | with_reducible refine DrawJ.each ?_ | with_reducible exact SubJ.self _ | with_reducible refine SubJ.of ?_ | with_reducible refine fill2_step (fun Kf hF => ?_) | with_reducible refine fill2_nil ?_ | with_reducible refine node2_step (fun Kg hG => ?_) | (with_reducible refine hF _ _ ?_; clear hF; clear Kf) | (with_reducible refine hG _ _ _ _ ?_; clear hG; clear Kg) | ((with_reducible refine seq_intro ?_ (fun Kv hN hX hR => ?_)); (next => exact rfl)) | ((with_reducible refine join_intro ?_ ?_); (next => exact rfl)) | (with_reducible refine hN _ ?_; (try (clear hG; clear Kg)); clear hN hX hR; clear Kv) | (with_reducible refine hX _ _ ?_; (try (clear hG; clear Kg)); clear hN hX hR; clear Kv) | (with_reducible refine hR _ ?_; (try (clear hG; clear Kg)); clear hN hX hR; clear Kv) | ((conv => whnf); first | with_reducible rfl | with_reducible exact True.intro | with_reducible intro _ | with_reducible refine And.intro ?_ ?_ | (with_reducible refine hN _ ?_; (try (clear hG; clear Kg)); clear hN hX hR; clear Kv) | (with_reducible refine hX _ _ ?_; (try (clear hG; clear Kg)); clear hN hX hR; clear Kv) | (with_reducible refine hR _ ?_; (try (clear hG; clear Kg)); clear hN hX hR; clear Kv) | with_reducible refine body_stop (fun Kv hN hX hR => ?_) | with_reducible refine Stop.mk ?_ | with_reducible refine Join.mk ⟨fun Kv hN hX hR => ?_, ?_⟩ | with_reducible refine DrawJ.each ?_ | with_reducible exact SubJ.self _ | with_reducible refine SubJ.of ?_ | with_reducible refine fill2_step (fun Kf hF => ?_) | with_reducible refine fill2_nil ?_ | with_reducible refine node2_step (fun Kg hG => ?_) | (with_reducible refine hF _ _ ?_; clear hF; clear Kf) | (with_reducible refine hG _ _ _ _ ?_; clear hG; clear Kg)))); all_goals (conv => whnf); all_goals (repeat ((try (clear hG; clear Kg)); clear hN hX hR; clear Kv))
  all_goals (try simp only [etaView] at *)
  all_goals first
    | rfl
    | trace_state
noncomputable def ownV (v : GView) (k : Int) : Int × Int := Classical.choose (seal_ex (if viewB v = true ∧ placeB k = true then ((ownP (namesP v.peers ++ [v.id]) k).1, (0 : Int)) else (0, 900)))
theorem ownV_def (v : GView) (k : Int) : ownV v k = if viewB v = true ∧ placeB k = true then ((ownP (namesP v.peers ++ [v.id]) k).1, (0 : Int)) else (0, 900) := Classical.choose_spec (seal_ex _)
theorem ownV_no {v : GView} {k : Int} (h : viewB v = false ∨ placeB k = false) : ownV v k = (0, 900) := by
  rw [ownV_def, if_neg]
  rintro ⟨h1, h2⟩
  rcases h with h | h <;> simp_all
noncomputable def oOwnV (v : GView) (k : Int) : Out := .ok (.tup [.int .i64 (ownV v k).1, .int .i64 (ownV v k).2]) []
theorem k_viewOwner : Known Try.prog tau 64 (S2 dView dInt oOwnV) := by
  refine known2 hmix tau_ok (ctx_cons k_viewMay (ctx_cons k_Place (ctx_cons k_Ids (ctx_cons k_rowOwner ctx_nil)))) (fn := Try.f64) (by kernel_rfl) [(3, [(0, 0), (1, 0), (2, 2), (3, 4), (4, 9), (5, 0), (6, 48), (7, 64), (8, 128), (9, 128), (10, 511), (11, 2047)])] (by kernel_rfl) _ _ _ fun v k hfit => ⟨rfl, [], ?_⟩
  have hp : v.peers.length * 16 ≤ 140737488355328 := hfit.1.2.1
  clear hfit
  (repeat' (first | ((with_reducible refine body_intro ?_); (first | ((with_reducible refine seq_intro ?_ (fun Kv hN hX hR => ?_)); (next => exact rfl)) | ((with_reducible refine join_intro ?_ ?_); (next => exact rfl)) | (conv => whnf))) | with_reducible refine body_stop (fun Kv hN hX hR => ?_) | with_reducible refine Stop.mk ?_ | with_reducible refine Join.mk ⟨fun Kv hN hX hR => ?_, ?_⟩ | with_reducible apply DrawJ.join | with_reducible exact SubJ.self _ | ((with_reducible refine SubJ.of ?_); (repeat' (first | with_reducible rfl | ((conv => whnf) <;> (first | with_reducible exact True.intro | with_reducible refine And.intro ?_ ?_ | with_reducible rfl | ((conv => rhs; whnf) <;> with_reducible rfl))))); done) | with_reducible refine fill2_step (fun Kf hF => ?_) | with_reducible refine fill2_nil ?_ | with_reducible refine node2_step (fun Kg hG => ?_) | (with_reducible refine hF _ _ ?_; clear hF; clear Kf) | (with_reducible refine hG _ _ _ _ ?_; clear hG; clear Kg) | ((with_reducible refine seq_intro ?_ (fun Kv hN hX hR => ?_)); (next => exact rfl)) | ((with_reducible refine join_intro ?_ ?_); (next => exact rfl)) | (with_reducible refine hN _ ?_; (try (clear hG; clear Kg)); clear hN hX hR; clear Kv) | (with_reducible refine hX _ _ ?_; (try (clear hG; clear Kg)); clear hN hX hR; clear Kv) | (with_reducible refine hR _ ?_; (try (clear hG; clear Kg)); clear hN hX hR; clear Kv) | ((conv => whnf); first | with_reducible rfl | with_reducible exact True.intro | with_reducible intro _ | with_reducible refine And.intro ?_ ?_ | (with_reducible refine hN _ ?_; (try (clear hG; clear Kg)); clear hN hX hR; clear Kv) | (with_reducible refine hX _ _ ?_; (try (clear hG; clear Kg)); clear hN hX hR; clear Kv) | (with_reducible refine hR _ ?_; (try (clear hG; clear Kg)); clear hN hX hR; clear Kv) | with_reducible refine body_stop (fun Kv hN hX hR => ?_) | with_reducible refine Stop.mk ?_ | with_reducible refine Join.mk ⟨fun Kv hN hX hR => ?_, ?_⟩ | with_reducible apply DrawJ.join | with_reducible exact SubJ.self _ | ((with_reducible refine SubJ.of ?_); (repeat' (first | with_reducible rfl | ((conv => whnf) <;> (first | with_reducible exact True.intro | with_reducible refine And.intro ?_ ?_ | with_reducible rfl | ((conv => rhs; whnf) <;> with_reducible rfl))))); done) | with_reducible refine fill2_step (fun Kf hF => ?_) | with_reducible refine fill2_nil ?_ | with_reducible refine node2_step (fun Kg hG => ?_) | (with_reducible refine hF _ _ ?_; clear hF; clear Kf) | (with_reducible refine hG _ _ _ _ ?_; clear hG; clear Kg)))); all_goals (conv => whnf); all_goals (repeat ((try (clear hG; clear Kg)); clear hN hX hR; clear Kv))
  all_goals (try simp only [etaView] at *)
  all_goals first
    | (rw [ownV_no (.inl (nf (show (!viewB v) = true by with_reducible assumption)))]; done)
    | (rw [ownV_no (.inr (nf (show (!placeB k) = true by with_reducible assumption)))]; done)
    | (have h : viewB v = true := nt (by with_reducible assumption)
       have h2 : placeB k = true := nt (by with_reducible assumption)
       have h3 := (viewB_iff.1 h).2.2.1
       first
         | (refine Ob.mk ?_
            simp only [Rw.len, Rw.bts, Rw.kd, kdBytes, namesP_len, List.length_cons, List.length_nil]
            omega)
         | (rw [ownV_def, if_pos ⟨h, h2⟩]; done))
    | trace_state
theorem k_nodeUp : Known Try.prog tau 29 (S1 dNode fun x => okB (x.up && nodeB x)) := by
  refine known1 hmix tau_ok (ctx_cons k_nodeMay ctx_nil) (fn := Try.f29) (by kernel_rfl) [] (by kernel_rfl) _ _ fun x hfit => ⟨rfl, [], ?_⟩
  clear hfit
  (repeat' (first | ((with_reducible refine body_intro ?_); (first | ((with_reducible refine seq_intro ?_ (fun Kv hN hX hR => ?_)); (next => exact rfl)) | ((with_reducible refine join_intro ?_ ?_); (next => exact rfl)) | (conv => whnf))) | with_reducible refine body_stop (fun Kv hN hX hR => ?_) | with_reducible refine Stop.mk ?_ | with_reducible refine Join.mk ⟨fun Kv hN hX hR => ?_, ?_⟩ | with_reducible refine DrawJ.each ?_ | with_reducible exact SubJ.self _ | with_reducible refine SubJ.of ?_ | with_reducible refine fill2_step (fun Kf hF => ?_) | with_reducible refine fill2_nil ?_ | with_reducible refine node2_step (fun Kg hG => ?_) | (with_reducible refine hF _ _ ?_; clear hF; clear Kf) | (with_reducible refine hG _ _ _ _ ?_; clear hG; clear Kg) | ((with_reducible refine seq_intro ?_ (fun Kv hN hX hR => ?_)); (next => exact rfl)) | ((with_reducible refine join_intro ?_ ?_); (next => exact rfl)) | (with_reducible refine hN _ ?_; (try (clear hG; clear Kg)); clear hN hX hR; clear Kv) | (with_reducible refine hX _ _ ?_; (try (clear hG; clear Kg)); clear hN hX hR; clear Kv) | (with_reducible refine hR _ ?_; (try (clear hG; clear Kg)); clear hN hX hR; clear Kv) | ((conv => whnf); first | with_reducible rfl | with_reducible exact True.intro | with_reducible intro _ | with_reducible refine And.intro ?_ ?_ | (with_reducible refine hN _ ?_; (try (clear hG; clear Kg)); clear hN hX hR; clear Kv) | (with_reducible refine hX _ _ ?_; (try (clear hG; clear Kg)); clear hN hX hR; clear Kv) | (with_reducible refine hR _ ?_; (try (clear hG; clear Kg)); clear hN hX hR; clear Kv) | with_reducible refine body_stop (fun Kv hN hX hR => ?_) | with_reducible refine Stop.mk ?_ | with_reducible refine Join.mk ⟨fun Kv hN hX hR => ?_, ?_⟩ | with_reducible refine DrawJ.each ?_ | with_reducible exact SubJ.self _ | with_reducible refine SubJ.of ?_ | with_reducible refine fill2_step (fun Kf hF => ?_) | with_reducible refine fill2_nil ?_ | with_reducible refine node2_step (fun Kg hG => ?_) | (with_reducible refine hF _ _ ?_; clear hF; clear Kf) | (with_reducible refine hG _ _ _ _ ?_; clear hG; clear Kg)))); all_goals (conv => whnf); all_goals (repeat ((try (clear hG; clear Kg)); clear hN hX hR; clear Kv))
  all_goals (try simp only [etaNode] at *)
  all_goals first
    | (have h : x.up = true := by with_reducible assumption
       rw [h]
       rfl)
    | (have h : x.up = false := by with_reducible assumption
       rw [h]
       rfl)
    | trace_state
def nOwn4 (n : GNode) : List SV := [.bool n.up, .int .i64 n.view.id, .own 0, .own 1, .own 2, .own 3]
def nRows (n : GNode) : List Rw := [.peers n.view.peers, .ints n.view.passive, .items n.items, .tolds n.log]
theorem k_nodeCopy : Known Try.prog tau 30 (S1 dNode fun x => .ok (.agg (nOwn4 x)) (nRows x)) := by
  refine known1 hmix tau_ok (ctx_cons k_viewCopy (ctx_cons k_CloneItems (ctx_cons k_CloneTolds ctx_nil))) (fn := Try.f30) (by kernel_rfl) [(1, [(0, 0), (1, 1), (2, 2), (3, 0), (4, 8), (5, 20), (6, 0), (7, 64), (8, 160), (9, 223), (10, 991), (11, 1791), (12, 3839), (13, 8191), (14, 16383)])] (by kernel_rfl) _ _ fun x hfit => ⟨rfl, [], ?_⟩
  clear hfit
  (repeat' (first | ((with_reducible refine body_intro ?_); (first | ((with_reducible refine seq_intro ?_ (fun Kv hN hX hR => ?_)); (next => exact rfl)) | ((with_reducible refine join_intro ?_ ?_); (next => exact rfl)) | (conv => whnf))) | with_reducible refine body_stop (fun Kv hN hX hR => ?_) | with_reducible refine Stop.mk ?_ | with_reducible refine Join.mk ⟨fun Kv hN hX hR => ?_, ?_⟩ | with_reducible apply DrawJ.join | with_reducible exact SubJ.self _ | ((with_reducible refine SubJ.of ?_); (repeat' (first | with_reducible rfl | ((conv => whnf) <;> (first | with_reducible exact True.intro | with_reducible refine And.intro ?_ ?_ | with_reducible rfl | ((conv => rhs; whnf) <;> with_reducible rfl))))); done) | with_reducible refine fill2_step (fun Kf hF => ?_) | with_reducible refine fill2_nil ?_ | with_reducible refine node2_step (fun Kg hG => ?_) | (with_reducible refine hF _ _ ?_; clear hF; clear Kf) | (with_reducible refine hG _ _ _ _ ?_; clear hG; clear Kg) | ((with_reducible refine seq_intro ?_ (fun Kv hN hX hR => ?_)); (next => exact rfl)) | ((with_reducible refine join_intro ?_ ?_); (next => exact rfl)) | (with_reducible refine hN _ ?_; (try (clear hG; clear Kg)); clear hN hX hR; clear Kv) | (with_reducible refine hX _ _ ?_; (try (clear hG; clear Kg)); clear hN hX hR; clear Kv) | (with_reducible refine hR _ ?_; (try (clear hG; clear Kg)); clear hN hX hR; clear Kv) | ((conv => whnf); first | with_reducible rfl | with_reducible exact True.intro | with_reducible intro _ | with_reducible refine And.intro ?_ ?_ | (with_reducible refine hN _ ?_; (try (clear hG; clear Kg)); clear hN hX hR; clear Kv) | (with_reducible refine hX _ _ ?_; (try (clear hG; clear Kg)); clear hN hX hR; clear Kv) | (with_reducible refine hR _ ?_; (try (clear hG; clear Kg)); clear hN hX hR; clear Kv) | with_reducible refine body_stop (fun Kv hN hX hR => ?_) | with_reducible refine Stop.mk ?_ | with_reducible refine Join.mk ⟨fun Kv hN hX hR => ?_, ?_⟩ | with_reducible apply DrawJ.join | with_reducible exact SubJ.self _ | ((with_reducible refine SubJ.of ?_); (repeat' (first | with_reducible rfl | ((conv => whnf) <;> (first | with_reducible exact True.intro | with_reducible refine And.intro ?_ ?_ | with_reducible rfl | ((conv => rhs; whnf) <;> with_reducible rfl))))); done) | with_reducible refine fill2_step (fun Kf hF => ?_) | with_reducible refine fill2_nil ?_ | with_reducible refine node2_step (fun Kg hG => ?_) | (with_reducible refine hF _ _ ?_; clear hF; clear Kf) | (with_reducible refine hG _ _ _ _ ?_; clear hG; clear Kg)))); all_goals (conv => whnf); all_goals (repeat ((try (clear hG; clear Kg)); clear hN hX hR; clear Kv))
  all_goals first
    | rfl
    | trace_state
end Go.Proofs.Ytmhieddhmebfhaa

/- Contracts: sharing; a node's turn. -/
namespace Go.Proofs.Ytmhieddhmebfhaa
open Go.RowKit
def iZ : GItem := ⟨0, ⟨0, 0⟩, 0, false⟩
/-- Whom an item is sent to. -/
noncomputable def toV (v : GView) (k : Int) : Int := if (ownV v k).1 = v.id then (succV v).1 else (ownV v k).1
noncomputable def shareL (v : GView) : List GItem → List GMsg
  | [] => []
  | i :: l => (if toV v i.key = v.id then [] else [(⟨1, v.id, toV v i.key, [], 0, i, false⟩ : GMsg)]) ++ shareL v l
theorem shareL_app (v : GView) (a b : List GItem) : shareL v (a ++ b) = shareL v a ++ shareL v b := by
  induction a with
  | nil => rfl
  | cons i a ih => simp only [List.cons_append, shareL, ih, List.append_assoc]
theorem shareL_succ {v : GView} {l : List GItem} {i : Nat} (h : i < l.length) : shareL v (l.take (i + 1)) = shareL v (l.take i) ++ (if toV v (l.getD i default).key = v.id then [] else [(⟨1, v.id, toV v (l.getD i default).key, [], 0, l.getD i default, false⟩ : GMsg)]) := by
  rw [List.take_succ_eq_append_getElem h, shareL_app, ← etaIt h]
  simp only [shareL, List.append_nil]
theorem shareL_len (v : GView) (l : List GItem) : (shareL v l).length ≤ l.length := by
  induction l with
  | nil => exact Nat.le_refl _
  | cons i l ih => simp only [shareL, List.length_append, List.length_cons]; split <;> simp <;> omega
noncomputable def shareN (x : GNode) : List GMsg × Int := Classical.choose (seal_ex (if (x.up && nodeB x) = true then (shareL x.view x.items, (0 : Int)) else ([], 1800)))
theorem shareN_def (x : GNode) : shareN x = if (x.up && nodeB x) = true then (shareL x.view x.items, (0 : Int)) else ([], 1800) := Classical.choose_spec (seal_ex _)
noncomputable def oShare (x : GNode) : Out := .ok (.tup [.own 0, .int .i64 (shareN x).2]) [.msgs (shareN x).1]
set_option maxHeartbeats 2000000 in
theorem k_shareOf : Known Try.prog tau 33 (S1 dNode oShare) := by
  refine known1 hmix tau_ok (ctx_cons k_nodeUp (ctx_cons k_Succ (ctx_cons k_viewOwner ctx_nil))) (fn := Try.f33) (by kernel_rfl) [] (by kernel_rfl) _ _ fun x hfit => ⟨rfl,
    [(6, invA Nat [(4, 54, 7)] (4 :: 8 :: 9 :: 10 :: 23 :: 24 :: 25 :: 26 :: 27 :: 28 :: 29 :: 30 :: 31 :: 32 :: 33 :: 34 :: 35 :: 36 :: 37 :: 38 :: 39 :: 40 :: 41 :: 42 :: 43 :: 44 :: 45 :: 46 :: 47 :: 48 :: 49 :: 50 :: 51 :: 52 :: 53 :: 54 :: 55 :: []) [] (fun i => i ≤ x.items.length) (fun i => fun st => withS [(23, .int .i64 i), (4, .own 54)] (withR [(54, .own (.msgs (shareL x.view (x.items.take i))))] st)) (fun i => x.items.length - i))], ?_⟩
  have hp : x.items.length * 40 ≤ 140737488355328 := hfit.1.2.2.2.2.1
  clear hfit
  (repeat' (first | ((with_reducible refine body_intro ?_); (first | ((with_reducible refine seq_intro ?_ (fun Kv hN hX hR => ?_)); (next => exact rfl)) | ((with_reducible refine join_intro ?_ ?_); (next => exact rfl)) | (conv => whnf))) | with_reducible refine body_stop (fun Kv hN hX hR => ?_) | with_reducible refine Stop.mk ?_ | with_reducible refine Join.mk ⟨fun Kv hN hX hR => ?_, ?_⟩ | with_reducible refine DrawJ.each ?_ | with_reducible exact SubJ.self _ | with_reducible refine SubJ.of ?_ | with_reducible refine fill2_step (fun Kf hF => ?_) | with_reducible refine fill2_nil ?_ | with_reducible refine node2_step (fun Kg hG => ?_) | (with_reducible refine hF _ _ ?_; clear hF; clear Kf) | (with_reducible refine hG _ _ _ _ ?_; clear hG; clear Kg) | ((with_reducible refine seq_intro ?_ (fun Kv hN hX hR => ?_)); (next => exact rfl)) | ((with_reducible refine join_intro ?_ ?_); (next => exact rfl)) | (with_reducible refine hN _ ?_; (try (clear hG; clear Kg)); clear hN hX hR; clear Kv) | (with_reducible refine hX _ _ ?_; (try (clear hG; clear Kg)); clear hN hX hR; clear Kv) | (with_reducible refine hR _ ?_; (try (clear hG; clear Kg)); clear hN hX hR; clear Kv) | ((conv => whnf); first | with_reducible rfl | with_reducible exact True.intro | with_reducible refine (fun (_ : (_ : Prop)) => ?_) | with_reducible refine And.intro ?_ ?_ | (with_reducible refine hN _ ?_; (try (clear hG; clear Kg)); clear hN hX hR; clear Kv) | (with_reducible refine hX _ _ ?_; (try (clear hG; clear Kg)); clear hN hX hR; clear Kv) | (with_reducible refine hR _ ?_; (try (clear hG; clear Kg)); clear hN hX hR; clear Kv) | with_reducible refine body_stop (fun Kv hN hX hR => ?_) | with_reducible refine Stop.mk ?_ | with_reducible refine Join.mk ⟨fun Kv hN hX hR => ?_, ?_⟩ | with_reducible refine DrawJ.each ?_ | with_reducible exact SubJ.self _ | with_reducible refine SubJ.of ?_ | with_reducible refine fill2_step (fun Kf hF => ?_) | with_reducible refine fill2_nil ?_ | with_reducible refine node2_step (fun Kg hG => ?_) | (with_reducible refine hF _ _ ?_; clear hF; clear Kf) | (with_reducible refine hG _ _ _ _ ?_; clear hG; clear Kg)))); all_goals (conv => whnf); all_goals (repeat ((try (clear hG; clear Kg)); clear hN hX hR; clear Kv))
  all_goals first
    | (have h : (x.up && nodeB x) = false := nf (by with_reducible assumption)
       rw [shareN_def, if_neg (by rw [h]; simp)] <;> rfl)
    | (refine ⟨0, Nat.zero_le _, ?_⟩
       (repeat' (first | ((with_reducible refine body_intro ?_); (first | ((with_reducible refine seq_intro ?_ (fun Kv hN hX hR => ?_)); (next => exact rfl)) | ((with_reducible refine join_intro ?_ ?_); (next => exact rfl)) | (conv => whnf))) | with_reducible refine body_stop (fun Kv hN hX hR => ?_) | with_reducible refine Stop.mk ?_ | with_reducible refine Join.mk ⟨fun Kv hN hX hR => ?_, ?_⟩ | with_reducible refine DrawJ.each ?_ | with_reducible exact SubJ.self _ | with_reducible refine SubJ.of ?_ | with_reducible refine fill2_step (fun Kf hF => ?_) | with_reducible refine fill2_nil ?_ | with_reducible refine node2_step (fun Kg hG => ?_) | (with_reducible refine hF _ _ ?_; clear hF; clear Kf) | (with_reducible refine hG _ _ _ _ ?_; clear hG; clear Kg) | ((with_reducible refine seq_intro ?_ (fun Kv hN hX hR => ?_)); (next => exact rfl)) | ((with_reducible refine join_intro ?_ ?_); (next => exact rfl)) | (with_reducible refine hN _ ?_; (try (clear hG; clear Kg)); clear hN hX hR; clear Kv) | (with_reducible refine hX _ _ ?_; (try (clear hG; clear Kg)); clear hN hX hR; clear Kv) | (with_reducible refine hR _ ?_; (try (clear hG; clear Kg)); clear hN hX hR; clear Kv) | ((conv => whnf); first | with_reducible rfl | with_reducible exact True.intro | with_reducible intro _ | with_reducible refine And.intro ?_ ?_ | (with_reducible refine hN _ ?_; (try (clear hG; clear Kg)); clear hN hX hR; clear Kv) | (with_reducible refine hX _ _ ?_; (try (clear hG; clear Kg)); clear hN hX hR; clear Kv) | (with_reducible refine hR _ ?_; (try (clear hG; clear Kg)); clear hN hX hR; clear Kv) | with_reducible refine body_stop (fun Kv hN hX hR => ?_) | with_reducible refine Stop.mk ?_ | with_reducible refine Join.mk ⟨fun Kv hN hX hR => ?_, ?_⟩ | with_reducible refine DrawJ.each ?_ | with_reducible exact SubJ.self _ | with_reducible refine SubJ.of ?_ | with_reducible refine fill2_step (fun Kf hF => ?_) | with_reducible refine fill2_nil ?_ | with_reducible refine node2_step (fun Kg hG => ?_) | (with_reducible refine hF _ _ ?_; clear hF; clear Kf) | (with_reducible refine hG _ _ _ _ ?_; clear hG; clear Kg)))); all_goals (conv => whnf); all_goals (repeat ((try (clear hG; clear Kg)); clear hN hX hR; clear Kv))
       all_goals rfl)
    | (with_reducible intro i hi
       have hi : i ≤ x.items.length := hi
       have hB : (x.up && nodeB x) = true := nt (by with_reducible assumption)
       have hst := (storeB_iff.1 (by
         have := (Bool.and_eq_true _ _ ▸ hB).2
         unfold nodeB at this
         simp only [Bool.and_eq_true] at this
         exact this.2.1 : storeB x.items = true)).1
       have g2 := shareL_len x.view (x.items.take i)
       rw [List.length_take] at g2
       (repeat' (first | ((with_reducible refine body_intro ?_); (first | ((with_reducible refine seq_intro ?_ (fun Kv hN hX hR => ?_)); (next => exact rfl)) | ((with_reducible refine join_intro ?_ ?_); (next => exact rfl)) | (conv => whnf))) | with_reducible refine body_stop (fun Kv hN hX hR => ?_) | with_reducible refine Stop.mk ?_ | with_reducible refine Join.mk ⟨fun Kv hN hX hR => ?_, ?_⟩ | with_reducible refine DrawJ.each ?_ | with_reducible exact SubJ.self _ | with_reducible refine SubJ.of ?_ | with_reducible refine fill2_step (fun Kf hF => ?_) | with_reducible refine fill2_nil ?_ | with_reducible refine node2_step (fun Kg hG => ?_) | (with_reducible refine hF _ _ ?_; clear hF; clear Kf) | (with_reducible refine hG _ _ _ _ ?_; clear hG; clear Kg) | ((with_reducible refine seq_intro ?_ (fun Kv hN hX hR => ?_)); (next => exact rfl)) | ((with_reducible refine join_intro ?_ ?_); (next => exact rfl)) | (with_reducible refine hN _ ?_; (try (clear hG; clear Kg)); clear hN hX hR; clear Kv) | (with_reducible refine hX _ _ ?_; (try (clear hG; clear Kg)); clear hN hX hR; clear Kv) | (with_reducible refine hR _ ?_; (try (clear hG; clear Kg)); clear hN hX hR; clear Kv) | ((conv => whnf); first | with_reducible rfl | with_reducible exact True.intro | with_reducible intro _ | with_reducible refine And.intro ?_ ?_ | (with_reducible refine hN _ ?_; (try (clear hG; clear Kg)); clear hN hX hR; clear Kv) | (with_reducible refine hX _ _ ?_; (try (clear hG; clear Kg)); clear hN hX hR; clear Kv) | (with_reducible refine hR _ ?_; (try (clear hG; clear Kg)); clear hN hX hR; clear Kv) | with_reducible refine body_stop (fun Kv hN hX hR => ?_) | with_reducible refine Stop.mk ?_ | with_reducible refine Join.mk ⟨fun Kv hN hX hR => ?_, ?_⟩ | with_reducible refine DrawJ.each ?_ | with_reducible exact SubJ.self _ | with_reducible refine SubJ.of ?_ | with_reducible refine fill2_step (fun Kf hF => ?_) | with_reducible refine fill2_nil ?_ | with_reducible refine node2_step (fun Kg hG => ?_) | (with_reducible refine hF _ _ ?_; clear hF; clear Kf) | (with_reducible refine hG _ _ _ _ ?_; clear hG; clear Kg)))); all_goals (conv => whnf); all_goals (repeat ((try (clear hG; clear Kg)); clear hN hX hR; clear Kv))
       all_goals (try simp only [Int.toNat_natCast, etaView, etaItem] at *)
       all_goals first
         | exact Ob.mk ⟨by omega, of_decide_eq_true (by with_reducible assumption)⟩
         | (refine Ob.mk ?_
            simp only [Rw.len, Rw.bts, Rw.kd, kdBytes, List.length_cons, List.length_nil]
            omega)
         | (have h := of_decide_eq_true (show decide ((i : Int) < (x.items.length : Nat)) = true by with_reducible assumption)
            have e1 := shareL_succ (v := x.view) (l := x.items) (i := i) (by omega)
            have go : ∀ ys, shareL x.view (x.items.take (i + 1)) = shareL x.view (x.items.take i) ++ ys → shareL x.view (x.items.take i) ++ ys = shareL x.view (x.items.take (i + 1)) := fun ys h => h.symm
            first
              | (have h1 := of_decide_eq_true (show decide ((ownV x.view (x.items.getD i default).key).1 = x.view.id) = true by with_reducible assumption)
                 have ht : toV x.view (x.items.getD i default).key = (succV x.view).1 := by unfold toV; rw [if_pos h1]
                 rw [ht] at e1
                 first
                   | (have h2 := of_decide_eq_false (nf (show (!decide ((succV x.view).1 = x.view.id)) = true by with_reducible assumption))
                      rw [if_neg h2] at e1
                      refine ⟨i + 1, by omega, by omega, ?_⟩
                      (repeat' (first | ((with_reducible refine body_intro ?_); (first | ((with_reducible refine seq_intro ?_ (fun Kv hN hX hR => ?_)); (next => exact rfl)) | ((with_reducible refine join_intro ?_ ?_); (next => exact rfl)) | (conv => whnf))) | with_reducible refine body_stop (fun Kv hN hX hR => ?_) | with_reducible refine Stop.mk ?_ | with_reducible refine Join.mk ⟨fun Kv hN hX hR => ?_, ?_⟩ | with_reducible refine DrawJ.each ?_ | with_reducible exact SubJ.self _ | with_reducible refine SubJ.of ?_ | with_reducible refine fill2_step (fun Kf hF => ?_) | with_reducible refine fill2_nil ?_ | with_reducible refine node2_step (fun Kg hG => ?_) | (with_reducible refine hF _ _ ?_; clear hF; clear Kf) | (with_reducible refine hG _ _ _ _ ?_; clear hG; clear Kg) | ((with_reducible refine seq_intro ?_ (fun Kv hN hX hR => ?_)); (next => exact rfl)) | ((with_reducible refine join_intro ?_ ?_); (next => exact rfl)) | (with_reducible refine hN _ ?_; (try (clear hG; clear Kg)); clear hN hX hR; clear Kv) | (with_reducible refine hX _ _ ?_; (try (clear hG; clear Kg)); clear hN hX hR; clear Kv) | (with_reducible refine hR _ ?_; (try (clear hG; clear Kg)); clear hN hX hR; clear Kv) | ((conv => whnf); first | with_reducible rfl | with_reducible exact True.intro | with_reducible intro _ | with_reducible refine And.intro ?_ ?_ | (with_reducible refine hN _ ?_; (try (clear hG; clear Kg)); clear hN hX hR; clear Kv) | (with_reducible refine hX _ _ ?_; (try (clear hG; clear Kg)); clear hN hX hR; clear Kv) | (with_reducible refine hR _ ?_; (try (clear hG; clear Kg)); clear hN hX hR; clear Kv) | with_reducible refine body_stop (fun Kv hN hX hR => ?_) | with_reducible refine Stop.mk ?_ | with_reducible refine Join.mk ⟨fun Kv hN hX hR => ?_, ?_⟩ | with_reducible refine DrawJ.each ?_ | with_reducible exact SubJ.self _ | with_reducible refine SubJ.of ?_ | with_reducible refine fill2_step (fun Kf hF => ?_) | with_reducible refine fill2_nil ?_ | with_reducible refine node2_step (fun Kg hG => ?_) | (with_reducible refine hF _ _ ?_; clear hF; clear Kf) | (with_reducible refine hG _ _ _ _ ?_; clear hG; clear Kg)))); all_goals (conv => whnf); all_goals (repeat ((try (clear hG; clear Kg)); clear hN hX hR; clear Kv))
                      all_goals first
                        | exact wrapI (by omega) (by omega)
                        | exact congrArg Rw.msgs e1.symm
                        | rfl)
                   | (have h2 := of_decide_eq_true (nt (show (!decide ((succV x.view).1 = x.view.id)) = false by with_reducible assumption))
                      rw [if_pos h2, List.append_nil] at e1
                      refine ⟨i + 1, by omega, by omega, ?_⟩
                      (repeat' (first | ((with_reducible refine body_intro ?_); (first | ((with_reducible refine seq_intro ?_ (fun Kv hN hX hR => ?_)); (next => exact rfl)) | ((with_reducible refine join_intro ?_ ?_); (next => exact rfl)) | (conv => whnf))) | with_reducible refine body_stop (fun Kv hN hX hR => ?_) | with_reducible refine Stop.mk ?_ | with_reducible refine Join.mk ⟨fun Kv hN hX hR => ?_, ?_⟩ | with_reducible refine DrawJ.each ?_ | with_reducible exact SubJ.self _ | with_reducible refine SubJ.of ?_ | with_reducible refine fill2_step (fun Kf hF => ?_) | with_reducible refine fill2_nil ?_ | with_reducible refine node2_step (fun Kg hG => ?_) | (with_reducible refine hF _ _ ?_; clear hF; clear Kf) | (with_reducible refine hG _ _ _ _ ?_; clear hG; clear Kg) | ((with_reducible refine seq_intro ?_ (fun Kv hN hX hR => ?_)); (next => exact rfl)) | ((with_reducible refine join_intro ?_ ?_); (next => exact rfl)) | (with_reducible refine hN _ ?_; (try (clear hG; clear Kg)); clear hN hX hR; clear Kv) | (with_reducible refine hX _ _ ?_; (try (clear hG; clear Kg)); clear hN hX hR; clear Kv) | (with_reducible refine hR _ ?_; (try (clear hG; clear Kg)); clear hN hX hR; clear Kv) | ((conv => whnf); first | with_reducible rfl | with_reducible exact True.intro | with_reducible intro _ | with_reducible refine And.intro ?_ ?_ | (with_reducible refine hN _ ?_; (try (clear hG; clear Kg)); clear hN hX hR; clear Kv) | (with_reducible refine hX _ _ ?_; (try (clear hG; clear Kg)); clear hN hX hR; clear Kv) | (with_reducible refine hR _ ?_; (try (clear hG; clear Kg)); clear hN hX hR; clear Kv) | with_reducible refine body_stop (fun Kv hN hX hR => ?_) | with_reducible refine Stop.mk ?_ | with_reducible refine Join.mk ⟨fun Kv hN hX hR => ?_, ?_⟩ | with_reducible refine DrawJ.each ?_ | with_reducible exact SubJ.self _ | with_reducible refine SubJ.of ?_ | with_reducible refine fill2_step (fun Kf hF => ?_) | with_reducible refine fill2_nil ?_ | with_reducible refine node2_step (fun Kg hG => ?_) | (with_reducible refine hF _ _ ?_; clear hF; clear Kf) | (with_reducible refine hG _ _ _ _ ?_; clear hG; clear Kg)))); all_goals (conv => whnf); all_goals (repeat ((try (clear hG; clear Kg)); clear hN hX hR; clear Kv))
                      all_goals first
                        | exact wrapI (by omega) (by omega)
                        | exact congrArg Rw.msgs e1.symm
                        | rfl))
              | (have h1 := of_decide_eq_false (show decide ((ownV x.view (x.items.getD i default).key).1 = x.view.id) = false by with_reducible assumption)
                 have ht : toV x.view (x.items.getD i default).key = (ownV x.view (x.items.getD i default).key).1 := by unfold toV; rw [if_neg h1]
                 rw [ht, if_neg h1] at e1
                 first
                   | exact absurd (of_decide_eq_true (nt (show (!decide ((ownV x.view (x.items.getD i default).key).1 = x.view.id)) = false by with_reducible assumption))) h1
                   | (refine ⟨i + 1, by omega, by omega, ?_⟩
                      (repeat' (first | ((with_reducible refine body_intro ?_); (first | ((with_reducible refine seq_intro ?_ (fun Kv hN hX hR => ?_)); (next => exact rfl)) | ((with_reducible refine join_intro ?_ ?_); (next => exact rfl)) | (conv => whnf))) | with_reducible refine body_stop (fun Kv hN hX hR => ?_) | with_reducible refine Stop.mk ?_ | with_reducible refine Join.mk ⟨fun Kv hN hX hR => ?_, ?_⟩ | with_reducible refine DrawJ.each ?_ | with_reducible exact SubJ.self _ | with_reducible refine SubJ.of ?_ | with_reducible refine fill2_step (fun Kf hF => ?_) | with_reducible refine fill2_nil ?_ | with_reducible refine node2_step (fun Kg hG => ?_) | (with_reducible refine hF _ _ ?_; clear hF; clear Kf) | (with_reducible refine hG _ _ _ _ ?_; clear hG; clear Kg) | ((with_reducible refine seq_intro ?_ (fun Kv hN hX hR => ?_)); (next => exact rfl)) | ((with_reducible refine join_intro ?_ ?_); (next => exact rfl)) | (with_reducible refine hN _ ?_; (try (clear hG; clear Kg)); clear hN hX hR; clear Kv) | (with_reducible refine hX _ _ ?_; (try (clear hG; clear Kg)); clear hN hX hR; clear Kv) | (with_reducible refine hR _ ?_; (try (clear hG; clear Kg)); clear hN hX hR; clear Kv) | ((conv => whnf); first | with_reducible rfl | with_reducible exact True.intro | with_reducible intro _ | with_reducible refine And.intro ?_ ?_ | (with_reducible refine hN _ ?_; (try (clear hG; clear Kg)); clear hN hX hR; clear Kv) | (with_reducible refine hX _ _ ?_; (try (clear hG; clear Kg)); clear hN hX hR; clear Kv) | (with_reducible refine hR _ ?_; (try (clear hG; clear Kg)); clear hN hX hR; clear Kv) | with_reducible refine body_stop (fun Kv hN hX hR => ?_) | with_reducible refine Stop.mk ?_ | with_reducible refine Join.mk ⟨fun Kv hN hX hR => ?_, ?_⟩ | with_reducible refine DrawJ.each ?_ | with_reducible exact SubJ.self _ | with_reducible refine SubJ.of ?_ | with_reducible refine fill2_step (fun Kf hF => ?_) | with_reducible refine fill2_nil ?_ | with_reducible refine node2_step (fun Kg hG => ?_) | (with_reducible refine hF _ _ ?_; clear hF; clear Kf) | (with_reducible refine hG _ _ _ _ ?_; clear hG; clear Kg)))); all_goals (conv => whnf); all_goals (repeat ((try (clear hG; clear Kg)); clear hN hX hR; clear Kv))
                      all_goals first
                        | exact wrapI (by omega) (by omega)
                        | exact congrArg Rw.msgs e1.symm
                        | rfl)))
         | (have h := of_decide_eq_false (show decide ((i : Int) < (x.items.length : Nat)) = false by with_reducible assumption)
            rw [shareN_def, if_pos hB]
            first
              | done
              | rfl
              | rw [List.take_of_length_le (by omega)])
         | trace_state)
    | trace_state
/-- Greetings. -/
def helloL (v : GView) (ts : List Int) : List GMsg := ts.map fun t => ⟨0, v.id, t, namesP v.peers, 0, ⟨0, ⟨0, 0⟩, 0, false⟩, false⟩
theorem helloL_succ {v : GView} {l : List Int} {i : Nat} (h : i < l.length) : helloL v (l.take (i + 1)) = helloL v (l.take i) ++ [⟨0, v.id, l.getD i 0, namesP v.peers, 0, ⟨0, ⟨0, 0⟩, 0, false⟩, false⟩] := by
  unfold helloL
  rw [List.take_succ_eq_append_getElem h, List.map_append]
  simp [List.getD_eq_getElem?_getD, h]
theorem helloL_len (v : GView) (l : List Int) : (helloL v l).length = l.length := by simp [helloL]
noncomputable def tickN (x : GNode) : GNode × List GMsg × Int := Classical.choose (seal_ex (if (x.up && nodeB x) = true then ((⟨x.up, (tickV x.view).1, x.items, x.log⟩ : GNode), helloL (tickV x.view).1 (tickV x.view).2.1 ++ (shareN ⟨x.up, (tickV x.view).1, x.items, x.log⟩).1, (0 : Int)) else (nodeZ, [], 1900)))
theorem tickN_def (x : GNode) : tickN x = if (x.up && nodeB x) = true then ((⟨x.up, (tickV x.view).1, x.items, x.log⟩ : GNode), helloL (tickV x.view).1 (tickV x.view).2.1 ++ (shareN ⟨x.up, (tickV x.view).1, x.items, x.log⟩).1, (0 : Int)) else (nodeZ, [], 1900) := Classical.choose_spec (seal_ex _)
theorem shareN_len (x : GNode) : (shareN x).1.length ≤ x.items.length := by
  rw [shareN_def]
  split
  · exact shareL_len _ _
  · simp
theorem up_view {x : GNode} (h : (x.up && nodeB x) = true) : x.up = true ∧ nodeB x = true ∧ viewB x.view = true ∧ storeB x.items = true := by
  have h1 := Bool.and_eq_true _ _ ▸ h
  refine ⟨h1.1, h1.2, ?_⟩
  have := h1.2
  unfold nodeB at this
  simp only [Bool.and_eq_true] at this
  exact ⟨this.1, this.2.1⟩
noncomputable def oTick (x : GNode) : Out := .ok (.tup [.agg [.bool (tickN x).1.up, .int .i64 (tickN x).1.view.id, .own 0, .row .new (.ints (tickN x).1.view.passive), .own 1, .own 2], .own 3, .int .i64 (tickN x).2.2]) [.peers (tickN x).1.view.peers, .items (tickN x).1.items, .tolds (tickN x).1.log, .msgs (tickN x).2.1]
set_option maxHeartbeats 4000000 in
theorem k_tickStep : Known Try.prog tau 13 (S1 dNode oTick) := by
  refine known1 hmix tau_ok (ctx_cons k_nodeUp (ctx_cons k_nodeCopy (ctx_cons k_ageTick (ctx_cons k_Ids (ctx_cons k_shareOf ctx_nil))))) (fn := Try.f13) (by kernel_rfl) [(10, [(0, 0), (1, 0), (2, 2), (3, 0), (4, 0), (5, 28), (6, 32), (7, 81), (8, 255)]), (13, [(0, 0), (1, 0), (2, 0), (3, 6), (4, 9), (5, 31), (6, 63)])] (by kernel_rfl) _ _ fun x hfit => ⟨rfl,
    [(8, invA Nat [(9, 42, 7)] [9, 11, 31, 32, 33, 34, 35, 36, 37, 38, 39, 40, 41, 42, 43] [] (fun i => i ≤ (tickV x.view).2.1.length) (fun i => fun st => withS [(31, .int .i64 i), (9, .own 42)] (withR [(42, .own (.msgs (helloL (tickV x.view).1 ((tickV x.view).2.1.take i))))] st)) (fun i => (tickV x.view).2.1.length - i))], ?_⟩
  have hp : x.items.length * 40 ≤ 140737488355328 := hfit.1.2.2.2.2.1
  clear hfit
  (repeat' (first | ((with_reducible refine body_intro ?_); (first | ((with_reducible refine seq_intro ?_ (fun Kv hN hX hR => ?_)); (next => exact rfl)) | ((with_reducible refine join_intro ?_ ?_); (next => exact rfl)) | (conv => whnf))) | with_reducible refine body_stop (fun Kv hN hX hR => ?_) | with_reducible refine Stop.mk ?_ | with_reducible refine Join.mk ⟨fun Kv hN hX hR => ?_, ?_⟩ | with_reducible apply DrawJ.join | with_reducible exact SubJ.self _ | ((with_reducible refine SubJ.of ?_); (repeat' (first | with_reducible rfl | ((conv => whnf) <;> (first | with_reducible exact True.intro | with_reducible refine And.intro ?_ ?_ | with_reducible rfl | ((conv => rhs; whnf) <;> with_reducible rfl))))); done) | with_reducible refine fill2_step (fun Kf hF => ?_) | with_reducible refine fill2_nil ?_ | with_reducible refine node2_step (fun Kg hG => ?_) | (with_reducible refine hF _ _ ?_; clear hF; clear Kf) | (with_reducible refine hG _ _ _ _ ?_; clear hG; clear Kg) | ((with_reducible refine seq_intro ?_ (fun Kv hN hX hR => ?_)); (next => exact rfl)) | ((with_reducible refine join_intro ?_ ?_); (next => exact rfl)) | (with_reducible refine hN _ ?_; (try (clear hG; clear Kg)); clear hN hX hR; clear Kv) | (with_reducible refine hX _ _ ?_; (try (clear hG; clear Kg)); clear hN hX hR; clear Kv) | (with_reducible refine hR _ ?_; (try (clear hG; clear Kg)); clear hN hX hR; clear Kv) | ((conv => whnf); first | with_reducible rfl | with_reducible exact True.intro | with_reducible refine (fun (_ : (_ : Prop)) => ?_) | with_reducible refine And.intro ?_ ?_ | (with_reducible refine hN _ ?_; (try (clear hG; clear Kg)); clear hN hX hR; clear Kv) | (with_reducible refine hX _ _ ?_; (try (clear hG; clear Kg)); clear hN hX hR; clear Kv) | (with_reducible refine hR _ ?_; (try (clear hG; clear Kg)); clear hN hX hR; clear Kv) | with_reducible refine body_stop (fun Kv hN hX hR => ?_) | with_reducible refine Stop.mk ?_ | with_reducible refine Join.mk ⟨fun Kv hN hX hR => ?_, ?_⟩ | with_reducible apply DrawJ.join | with_reducible exact SubJ.self _ | ((with_reducible refine SubJ.of ?_); (repeat' (first | with_reducible rfl | ((conv => whnf) <;> (first | with_reducible exact True.intro | with_reducible refine And.intro ?_ ?_ | with_reducible rfl | ((conv => rhs; whnf) <;> with_reducible rfl))))); done) | with_reducible refine fill2_step (fun Kf hF => ?_) | with_reducible refine fill2_nil ?_ | with_reducible refine node2_step (fun Kg hG => ?_) | (with_reducible refine hF _ _ ?_; clear hF; clear Kf) | (with_reducible refine hG _ _ _ _ ?_; clear hG; clear Kg)))); all_goals (conv => whnf); all_goals (repeat ((try (clear hG; clear Kg)); clear hN hX hR; clear Kv))
  all_goals first
    | (have h : (x.up && nodeB x) = false := nf (by with_reducible assumption)
       rw [tickN_def, if_neg (by rw [h]; simp)] <;> rfl)
    | (refine ⟨0, Nat.zero_le _, ?_⟩
       (repeat' (first | ((with_reducible refine body_intro ?_); (first | ((with_reducible refine seq_intro ?_ (fun Kv hN hX hR => ?_)); (next => exact rfl)) | ((with_reducible refine join_intro ?_ ?_); (next => exact rfl)) | (conv => whnf))) | with_reducible refine body_stop (fun Kv hN hX hR => ?_) | with_reducible refine Stop.mk ?_ | with_reducible refine Join.mk ⟨fun Kv hN hX hR => ?_, ?_⟩ | with_reducible refine DrawJ.each ?_ | with_reducible exact SubJ.self _ | with_reducible refine SubJ.of ?_ | with_reducible refine fill2_step (fun Kf hF => ?_) | with_reducible refine fill2_nil ?_ | with_reducible refine node2_step (fun Kg hG => ?_) | (with_reducible refine hF _ _ ?_; clear hF; clear Kf) | (with_reducible refine hG _ _ _ _ ?_; clear hG; clear Kg) | ((with_reducible refine seq_intro ?_ (fun Kv hN hX hR => ?_)); (next => exact rfl)) | ((with_reducible refine join_intro ?_ ?_); (next => exact rfl)) | (with_reducible refine hN _ ?_; (try (clear hG; clear Kg)); clear hN hX hR; clear Kv) | (with_reducible refine hX _ _ ?_; (try (clear hG; clear Kg)); clear hN hX hR; clear Kv) | (with_reducible refine hR _ ?_; (try (clear hG; clear Kg)); clear hN hX hR; clear Kv) | ((conv => whnf); first | with_reducible rfl | with_reducible exact True.intro | with_reducible intro _ | with_reducible refine And.intro ?_ ?_ | (with_reducible refine hN _ ?_; (try (clear hG; clear Kg)); clear hN hX hR; clear Kv) | (with_reducible refine hX _ _ ?_; (try (clear hG; clear Kg)); clear hN hX hR; clear Kv) | (with_reducible refine hR _ ?_; (try (clear hG; clear Kg)); clear hN hX hR; clear Kv) | with_reducible refine body_stop (fun Kv hN hX hR => ?_) | with_reducible refine Stop.mk ?_ | with_reducible refine Join.mk ⟨fun Kv hN hX hR => ?_, ?_⟩ | with_reducible refine DrawJ.each ?_ | with_reducible exact SubJ.self _ | with_reducible refine SubJ.of ?_ | with_reducible refine fill2_step (fun Kf hF => ?_) | with_reducible refine fill2_nil ?_ | with_reducible refine node2_step (fun Kg hG => ?_) | (with_reducible refine hF _ _ ?_; clear hF; clear Kf) | (with_reducible refine hG _ _ _ _ ?_; clear hG; clear Kg)))); all_goals (conv => whnf); all_goals (repeat ((try (clear hG; clear Kg)); clear hN hX hR; clear Kv))
       all_goals rfl)
    | (with_reducible intro i hi
       have hi : i ≤ (tickV x.view).2.1.length := hi
       have hB : (x.up && nodeB x) = true := nt (by with_reducible assumption)
       obtain ⟨b1, b2, b3, b4⟩ := up_view hB
       have t := tick_ok b3
       have tl := congrArg List.length t.2.2.2.2.1
       rw [List.length_append, namesP_len, ← t.2.2.1] at tl
       have t16 := (viewB_iff.1 t.1).2.2.1
       have s16 := (storeB_iff.1 b4).1
       have g3 := shareN_len ⟨x.up, (tickV x.view).1, x.items, x.log⟩
       have htn := (tickN_def x).trans (if_pos hB)
       (repeat' (first | ((with_reducible refine body_intro ?_); (first | ((with_reducible refine seq_intro ?_ (fun Kv hN hX hR => ?_)); (next => exact rfl)) | ((with_reducible refine join_intro ?_ ?_); (next => exact rfl)) | (conv => whnf))) | with_reducible refine body_stop (fun Kv hN hX hR => ?_) | with_reducible refine Stop.mk ?_ | with_reducible refine Join.mk ⟨fun Kv hN hX hR => ?_, ?_⟩ | with_reducible apply DrawJ.join | with_reducible exact SubJ.self _ | ((with_reducible refine SubJ.of ?_); (repeat' (first | with_reducible rfl | ((conv => whnf) <;> (first | with_reducible exact True.intro | with_reducible refine And.intro ?_ ?_ | with_reducible rfl | ((conv => rhs; whnf) <;> with_reducible rfl))))); done) | with_reducible refine fill2_step (fun Kf hF => ?_) | with_reducible refine fill2_nil ?_ | with_reducible refine node2_step (fun Kg hG => ?_) | (with_reducible refine hF _ _ ?_; clear hF; clear Kf) | (with_reducible refine hG _ _ _ _ ?_; clear hG; clear Kg) | ((with_reducible refine seq_intro ?_ (fun Kv hN hX hR => ?_)); (next => exact rfl)) | ((with_reducible refine join_intro ?_ ?_); (next => exact rfl)) | (with_reducible refine hN _ ?_; (try (clear hG; clear Kg)); clear hN hX hR; clear Kv) | (with_reducible refine hX _ _ ?_; (try (clear hG; clear Kg)); clear hN hX hR; clear Kv) | (with_reducible refine hR _ ?_; (try (clear hG; clear Kg)); clear hN hX hR; clear Kv) | ((conv => whnf); first | with_reducible rfl | with_reducible exact True.intro | with_reducible intro _ | with_reducible refine And.intro ?_ ?_ | (with_reducible refine hN _ ?_; (try (clear hG; clear Kg)); clear hN hX hR; clear Kv) | (with_reducible refine hX _ _ ?_; (try (clear hG; clear Kg)); clear hN hX hR; clear Kv) | (with_reducible refine hR _ ?_; (try (clear hG; clear Kg)); clear hN hX hR; clear Kv) | with_reducible refine body_stop (fun Kv hN hX hR => ?_) | with_reducible refine Stop.mk ?_ | with_reducible refine Join.mk ⟨fun Kv hN hX hR => ?_, ?_⟩ | with_reducible apply DrawJ.join | with_reducible exact SubJ.self _ | ((with_reducible refine SubJ.of ?_); (repeat' (first | with_reducible rfl | ((conv => whnf) <;> (first | with_reducible exact True.intro | with_reducible refine And.intro ?_ ?_ | with_reducible rfl | ((conv => rhs; whnf) <;> with_reducible rfl))))); done) | with_reducible refine fill2_step (fun Kf hF => ?_) | with_reducible refine fill2_nil ?_ | with_reducible refine node2_step (fun Kg hG => ?_) | (with_reducible refine hF _ _ ?_; clear hF; clear Kf) | (with_reducible refine hG _ _ _ _ ?_; clear hG; clear Kg)))); all_goals (conv => whnf); all_goals (repeat ((try (clear hG; clear Kg)); clear hN hX hR; clear Kv))
       all_goals (try simp only [Int.toNat_natCast, etaView, etaNode] at *)
       all_goals first
         | exact Ob.mk ⟨by omega, of_decide_eq_true (by with_reducible assumption)⟩
         | (refine Ob.mk ?_
            simp only [Rw.len, Rw.bts, Rw.kd, kdBytes, List.length_cons, List.length_nil, helloL_len, List.length_take]
            omega)
         | (have h := of_decide_eq_true (show decide ((i : Int) < ((tickV x.view).2.1.length : Nat)) = true by with_reducible assumption)
            have e1 := helloL_succ (v := (tickV x.view).1) (l := (tickV x.view).2.1) (i := i) (by omega)
            refine ⟨i + 1, by omega, by omega, ?_⟩
            (repeat' (first | ((with_reducible refine body_intro ?_); (first | ((with_reducible refine seq_intro ?_ (fun Kv hN hX hR => ?_)); (next => exact rfl)) | ((with_reducible refine join_intro ?_ ?_); (next => exact rfl)) | (conv => whnf))) | with_reducible refine body_stop (fun Kv hN hX hR => ?_) | with_reducible refine Stop.mk ?_ | with_reducible refine Join.mk ⟨fun Kv hN hX hR => ?_, ?_⟩ | with_reducible refine DrawJ.each ?_ | with_reducible exact SubJ.self _ | with_reducible refine SubJ.of ?_ | with_reducible refine fill2_step (fun Kf hF => ?_) | with_reducible refine fill2_nil ?_ | with_reducible refine node2_step (fun Kg hG => ?_) | (with_reducible refine hF _ _ ?_; clear hF; clear Kf) | (with_reducible refine hG _ _ _ _ ?_; clear hG; clear Kg) | ((with_reducible refine seq_intro ?_ (fun Kv hN hX hR => ?_)); (next => exact rfl)) | ((with_reducible refine join_intro ?_ ?_); (next => exact rfl)) | (with_reducible refine hN _ ?_; (try (clear hG; clear Kg)); clear hN hX hR; clear Kv) | (with_reducible refine hX _ _ ?_; (try (clear hG; clear Kg)); clear hN hX hR; clear Kv) | (with_reducible refine hR _ ?_; (try (clear hG; clear Kg)); clear hN hX hR; clear Kv) | ((conv => whnf); first | with_reducible rfl | with_reducible exact True.intro | with_reducible intro _ | with_reducible refine And.intro ?_ ?_ | (with_reducible refine hN _ ?_; (try (clear hG; clear Kg)); clear hN hX hR; clear Kv) | (with_reducible refine hX _ _ ?_; (try (clear hG; clear Kg)); clear hN hX hR; clear Kv) | (with_reducible refine hR _ ?_; (try (clear hG; clear Kg)); clear hN hX hR; clear Kv) | with_reducible refine body_stop (fun Kv hN hX hR => ?_) | with_reducible refine Stop.mk ?_ | with_reducible refine Join.mk ⟨fun Kv hN hX hR => ?_, ?_⟩ | with_reducible refine DrawJ.each ?_ | with_reducible exact SubJ.self _ | with_reducible refine SubJ.of ?_ | with_reducible refine fill2_step (fun Kf hF => ?_) | with_reducible refine fill2_nil ?_ | with_reducible refine node2_step (fun Kg hG => ?_) | (with_reducible refine hF _ _ ?_; clear hF; clear Kf) | (with_reducible refine hG _ _ _ _ ?_; clear hG; clear Kg)))); all_goals (conv => whnf); all_goals (repeat ((try (clear hG; clear Kg)); clear hN hX hR; clear Kv))
            all_goals first
              | exact wrapI (by omega) (by omega)
              | exact congrArg Rw.msgs e1.symm
              | rfl)
         | (have h := of_decide_eq_false (show decide ((i : Int) < ((tickV x.view).2.1.length : Nat)) = false by with_reducible assumption)
            rw [htn]
            first
              | done
              | rfl
              | rw [List.take_of_length_le (by omega)])
         | trace_state)
    | trace_state
end Go.Proofs.Ytmhieddhmebfhaa

/- Contracts: the laws' comparisons: Peers. -/
namespace Go.Proofs.Ytmhieddhmebfhaa
open Go.RowKit

theorem k_SamePeers : Known Try.prog tau 65 (S2 dPeers dPeers fun a b => okB (decide (a = b))) := by
  refine known2 hmix tau_ok ctx_nil (fn := Try.f65) (by kernel_rfl) [(6, [(0, 0), (1, 0), (2, 3), (3, 4), (4, 0), (5, 0), (6, 48), (7, 64), (8, 136)])] (by kernel_rfl) _ _ _ fun xs ys hfit => ⟨rfl,
    [(4, invN [4, 5, 11, 12, 13, 14, 15, 16, 17, 18, 19, 20, 21, 22, 23, 24, 25] (fun i => i ≤ xs.length ∧ ∀ j, j < i → xs.getD j default = ys.getD j default) (fun i => withS [(5, .int .i64 i)]) (fun i => xs.length - i))], ?_⟩
  have hlen : xs.length * 16 ≤ 140737488355328 := hfit.1
  clear hfit
  (repeat' (first | ((with_reducible refine body_intro ?_); (first | ((with_reducible refine seq_intro ?_ (fun Kv hN hX hR => ?_)); (next => exact rfl)) | ((with_reducible refine join_intro ?_ ?_); (next => exact rfl)) | (conv => whnf))) | with_reducible refine body_stop (fun Kv hN hX hR => ?_) | with_reducible refine Stop.mk ?_ | with_reducible refine Join.mk ⟨fun Kv hN hX hR => ?_, ?_⟩ | with_reducible refine DrawJ.each ?_ | with_reducible exact SubJ.self _ | with_reducible refine SubJ.of ?_ | with_reducible refine fill2_step (fun Kf hF => ?_) | with_reducible refine fill2_nil ?_ | with_reducible refine node2_step (fun Kg hG => ?_) | (with_reducible refine hF _ _ ?_; clear hF; clear Kf) | (with_reducible refine hG _ _ _ _ ?_; clear hG; clear Kg) | ((with_reducible refine seq_intro ?_ (fun Kv hN hX hR => ?_)); (next => exact rfl)) | ((with_reducible refine join_intro ?_ ?_); (next => exact rfl)) | (with_reducible refine hN _ ?_; (try (clear hG; clear Kg)); clear hN hX hR; clear Kv) | (with_reducible refine hX _ _ ?_; (try (clear hG; clear Kg)); clear hN hX hR; clear Kv) | (with_reducible refine hR _ ?_; (try (clear hG; clear Kg)); clear hN hX hR; clear Kv) | ((conv => whnf); first | with_reducible rfl | with_reducible exact True.intro | with_reducible refine (fun (_ : (_ : Prop)) => ?_) | with_reducible refine And.intro ?_ ?_ | (with_reducible refine hN _ ?_; (try (clear hG; clear Kg)); clear hN hX hR; clear Kv) | (with_reducible refine hX _ _ ?_; (try (clear hG; clear Kg)); clear hN hX hR; clear Kv) | (with_reducible refine hR _ ?_; (try (clear hG; clear Kg)); clear hN hX hR; clear Kv) | with_reducible refine body_stop (fun Kv hN hX hR => ?_) | with_reducible refine Stop.mk ?_ | with_reducible refine Join.mk ⟨fun Kv hN hX hR => ?_, ?_⟩ | with_reducible refine DrawJ.each ?_ | with_reducible exact SubJ.self _ | with_reducible refine SubJ.of ?_ | with_reducible refine fill2_step (fun Kf hF => ?_) | with_reducible refine fill2_nil ?_ | with_reducible refine node2_step (fun Kg hG => ?_) | (with_reducible refine hF _ _ ?_; clear hF; clear Kf) | (with_reducible refine hG _ _ _ _ ?_; clear hG; clear Kg)))); all_goals (conv => whnf); all_goals (repeat ((try (clear hG; clear Kg)); clear hN hX hR; clear Kv))
  all_goals first
    | (have h := of_decide_eq_false (nf (by with_reducible assumption))
       exact (decide_eq_false (fun e => h (by rw [e]))).symm)
    | (refine ⟨0, ⟨by omega, by intros; omega⟩, ?_⟩
       (repeat' (first | ((with_reducible refine body_intro ?_); (first | ((with_reducible refine seq_intro ?_ (fun Kv hN hX hR => ?_)); (next => exact rfl)) | ((with_reducible refine join_intro ?_ ?_); (next => exact rfl)) | (conv => whnf))) | with_reducible refine body_stop (fun Kv hN hX hR => ?_) | with_reducible refine Stop.mk ?_ | with_reducible refine Join.mk ⟨fun Kv hN hX hR => ?_, ?_⟩ | with_reducible refine DrawJ.each ?_ | with_reducible exact SubJ.self _ | with_reducible refine SubJ.of ?_ | with_reducible refine fill2_step (fun Kf hF => ?_) | with_reducible refine fill2_nil ?_ | with_reducible refine node2_step (fun Kg hG => ?_) | (with_reducible refine hF _ _ ?_; clear hF; clear Kf) | (with_reducible refine hG _ _ _ _ ?_; clear hG; clear Kg) | ((with_reducible refine seq_intro ?_ (fun Kv hN hX hR => ?_)); (next => exact rfl)) | ((with_reducible refine join_intro ?_ ?_); (next => exact rfl)) | (with_reducible refine hN _ ?_; (try (clear hG; clear Kg)); clear hN hX hR; clear Kv) | (with_reducible refine hX _ _ ?_; (try (clear hG; clear Kg)); clear hN hX hR; clear Kv) | (with_reducible refine hR _ ?_; (try (clear hG; clear Kg)); clear hN hX hR; clear Kv) | ((conv => whnf); first | with_reducible rfl | with_reducible exact True.intro | with_reducible intro _ | with_reducible refine And.intro ?_ ?_ | (with_reducible refine hN _ ?_; (try (clear hG; clear Kg)); clear hN hX hR; clear Kv) | (with_reducible refine hX _ _ ?_; (try (clear hG; clear Kg)); clear hN hX hR; clear Kv) | (with_reducible refine hR _ ?_; (try (clear hG; clear Kg)); clear hN hX hR; clear Kv) | with_reducible refine body_stop (fun Kv hN hX hR => ?_) | with_reducible refine Stop.mk ?_ | with_reducible refine Join.mk ⟨fun Kv hN hX hR => ?_, ?_⟩ | with_reducible refine DrawJ.each ?_ | with_reducible exact SubJ.self _ | with_reducible refine SubJ.of ?_ | with_reducible refine fill2_step (fun Kf hF => ?_) | with_reducible refine fill2_nil ?_ | with_reducible refine node2_step (fun Kg hG => ?_) | (with_reducible refine hF _ _ ?_; clear hF; clear Kf) | (with_reducible refine hG _ _ _ _ ?_; clear hG; clear Kg)))); all_goals (conv => whnf); all_goals (repeat ((try (clear hG; clear Kg)); clear hN hX hR; clear Kv))
       all_goals rfl)
    | (with_reducible intro i hi
       have hl : (xs.length : Int) = ys.length := of_decide_eq_true (nt (by with_reducible assumption))
       (repeat' (first | ((with_reducible refine body_intro ?_); (first | ((with_reducible refine seq_intro ?_ (fun Kv hN hX hR => ?_)); (next => exact rfl)) | ((with_reducible refine join_intro ?_ ?_); (next => exact rfl)) | (conv => whnf))) | with_reducible refine body_stop (fun Kv hN hX hR => ?_) | with_reducible refine Stop.mk ?_ | with_reducible refine Join.mk ⟨fun Kv hN hX hR => ?_, ?_⟩ | with_reducible refine DrawJ.each ?_ | with_reducible exact SubJ.self _ | with_reducible refine SubJ.of ?_ | with_reducible refine fill2_step (fun Kf hF => ?_) | with_reducible refine fill2_nil ?_ | with_reducible refine node2_step (fun Kg hG => ?_) | (with_reducible refine hF _ _ ?_; clear hF; clear Kf) | (with_reducible refine hG _ _ _ _ ?_; clear hG; clear Kg) | ((with_reducible refine seq_intro ?_ (fun Kv hN hX hR => ?_)); (next => exact rfl)) | ((with_reducible refine join_intro ?_ ?_); (next => exact rfl)) | (with_reducible refine hN _ ?_; (try (clear hG; clear Kg)); clear hN hX hR; clear Kv) | (with_reducible refine hX _ _ ?_; (try (clear hG; clear Kg)); clear hN hX hR; clear Kv) | (with_reducible refine hR _ ?_; (try (clear hG; clear Kg)); clear hN hX hR; clear Kv) | ((conv => whnf); first | with_reducible rfl | with_reducible exact True.intro | with_reducible intro _ | with_reducible refine And.intro ?_ ?_ | (with_reducible refine hN _ ?_; (try (clear hG; clear Kg)); clear hN hX hR; clear Kv) | (with_reducible refine hX _ _ ?_; (try (clear hG; clear Kg)); clear hN hX hR; clear Kv) | (with_reducible refine hR _ ?_; (try (clear hG; clear Kg)); clear hN hX hR; clear Kv) | with_reducible refine body_stop (fun Kv hN hX hR => ?_) | with_reducible refine Stop.mk ?_ | with_reducible refine Join.mk ⟨fun Kv hN hX hR => ?_, ?_⟩ | with_reducible refine DrawJ.each ?_ | with_reducible exact SubJ.self _ | with_reducible refine SubJ.of ?_ | with_reducible refine fill2_step (fun Kf hF => ?_) | with_reducible refine fill2_nil ?_ | with_reducible refine node2_step (fun Kg hG => ?_) | (with_reducible refine hF _ _ ?_; clear hF; clear Kf) | (with_reducible refine hG _ _ _ _ ?_; clear hG; clear Kg)))); all_goals (conv => whnf); all_goals (repeat ((try (clear hG; clear Kg)); clear hN hX hR; clear Kv))
       all_goals (try simp only [Int.toNat_natCast] at *)
       all_goals first
         | (have h := of_decide_eq_true (show decide ((i : Int) < (xs.length : Nat)) = true by with_reducible assumption)
            exact Ob.mk ⟨by omega, by omega⟩)
         | (have h := of_decide_eq_true (show decide ((i : Int) < (xs.length : Nat)) = true by with_reducible assumption)
            have h3 : ¬ (xs.getD i default = ys.getD i default) := by
              intro e
              simp_all
              done
            exact (decide_eq_false (fun e => h3 (by rw [e]))).symm)
         | (have h := of_decide_eq_true (show decide ((i : Int) < (xs.length : Nat)) = true by with_reducible assumption)
            have h3 : xs.getD i default = ys.getD i default := by
              simp only [Bool.not_eq_false', Bool.and_eq_true, decide_eq_true_eq] at *
              first
                | assumption
                | (rename_i h4; cases hx : xs.getD i default; cases hy : ys.getD i default; simp_all)
            refine ⟨i + 1, ⟨by omega, fun j hj => ?_⟩, by show xs.length - (i + 1) < xs.length - i; omega, ?_⟩
            · rcases Nat.lt_succ_iff_lt_or_eq.1 hj with h4 | h4
              · exact hi.2 j h4
              · subst h4; exact h3
            · (repeat' (first | ((with_reducible refine body_intro ?_); (first | ((with_reducible refine seq_intro ?_ (fun Kv hN hX hR => ?_)); (next => exact rfl)) | ((with_reducible refine join_intro ?_ ?_); (next => exact rfl)) | (conv => whnf))) | with_reducible refine body_stop (fun Kv hN hX hR => ?_) | with_reducible refine Stop.mk ?_ | with_reducible refine Join.mk ⟨fun Kv hN hX hR => ?_, ?_⟩ | with_reducible refine DrawJ.each ?_ | with_reducible exact SubJ.self _ | with_reducible refine SubJ.of ?_ | with_reducible refine fill2_step (fun Kf hF => ?_) | with_reducible refine fill2_nil ?_ | with_reducible refine node2_step (fun Kg hG => ?_) | (with_reducible refine hF _ _ ?_; clear hF; clear Kf) | (with_reducible refine hG _ _ _ _ ?_; clear hG; clear Kg) | ((with_reducible refine seq_intro ?_ (fun Kv hN hX hR => ?_)); (next => exact rfl)) | ((with_reducible refine join_intro ?_ ?_); (next => exact rfl)) | (with_reducible refine hN _ ?_; (try (clear hG; clear Kg)); clear hN hX hR; clear Kv) | (with_reducible refine hX _ _ ?_; (try (clear hG; clear Kg)); clear hN hX hR; clear Kv) | (with_reducible refine hR _ ?_; (try (clear hG; clear Kg)); clear hN hX hR; clear Kv) | ((conv => whnf); first | with_reducible rfl | with_reducible exact True.intro | with_reducible intro _ | with_reducible refine And.intro ?_ ?_ | (with_reducible refine hN _ ?_; (try (clear hG; clear Kg)); clear hN hX hR; clear Kv) | (with_reducible refine hX _ _ ?_; (try (clear hG; clear Kg)); clear hN hX hR; clear Kv) | (with_reducible refine hR _ ?_; (try (clear hG; clear Kg)); clear hN hX hR; clear Kv) | with_reducible refine body_stop (fun Kv hN hX hR => ?_) | with_reducible refine Stop.mk ?_ | with_reducible refine Join.mk ⟨fun Kv hN hX hR => ?_, ?_⟩ | with_reducible refine DrawJ.each ?_ | with_reducible exact SubJ.self _ | with_reducible refine SubJ.of ?_ | with_reducible refine fill2_step (fun Kf hF => ?_) | with_reducible refine fill2_nil ?_ | with_reducible refine node2_step (fun Kg hG => ?_) | (with_reducible refine hF _ _ ?_; clear hF; clear Kf) | (with_reducible refine hG _ _ _ _ ?_; clear hG; clear Kg)))); all_goals (conv => whnf); all_goals (repeat ((try (clear hG; clear Kg)); clear hN hX hR; clear Kv))
              all_goals first
                | exact wrapI (by omega) (by omega)
                | rfl)
         | (have h := of_decide_eq_false (show decide ((i : Int) < (xs.length : Nat)) = false by with_reducible assumption)
            exact (decide_eq_true (eq_of_take (d := default) (by omega) fun j hj => hi.2 j (by omega))).symm)
         | trace_state)
    | trace_state
end Go.Proofs.Ytmhieddhmebfhaa

/- Contracts: the laws' comparisons: Items. -/
namespace Go.Proofs.Ytmhieddhmebfhaa
open Go.RowKit

theorem k_SameItems : Known Try.prog tau 19 (S2 dItems dItems fun a b => okB (decide (a = b))) := by
  refine known2 hmix tau_ok ctx_nil (fn := Try.f19) (by kernel_rfl) [(6, [(0, 0), (1, 0), (2, 3), (3, 4), (4, 0), (5, 0), (6, 48), (7, 64), (8, 136)])] (by kernel_rfl) _ _ _ fun xs ys hfit => ⟨rfl,
    [(4, invN [4, 5, 11, 12, 13, 14, 15, 16, 17, 18, 19, 20, 21, 22, 23, 24, 25] (fun i => i ≤ xs.length ∧ ∀ j, j < i → xs.getD j default = ys.getD j default) (fun i => withS [(5, .int .i64 i)]) (fun i => xs.length - i))], ?_⟩
  have hlen : xs.length * 40 ≤ 140737488355328 := hfit.1
  clear hfit
  (repeat' (first | ((with_reducible refine body_intro ?_); (first | ((with_reducible refine seq_intro ?_ (fun Kv hN hX hR => ?_)); (next => exact rfl)) | ((with_reducible refine join_intro ?_ ?_); (next => exact rfl)) | (conv => whnf))) | with_reducible refine body_stop (fun Kv hN hX hR => ?_) | with_reducible refine Stop.mk ?_ | with_reducible refine Join.mk ⟨fun Kv hN hX hR => ?_, ?_⟩ | with_reducible refine DrawJ.each ?_ | with_reducible exact SubJ.self _ | with_reducible refine SubJ.of ?_ | with_reducible refine fill2_step (fun Kf hF => ?_) | with_reducible refine fill2_nil ?_ | with_reducible refine node2_step (fun Kg hG => ?_) | (with_reducible refine hF _ _ ?_; clear hF; clear Kf) | (with_reducible refine hG _ _ _ _ ?_; clear hG; clear Kg) | ((with_reducible refine seq_intro ?_ (fun Kv hN hX hR => ?_)); (next => exact rfl)) | ((with_reducible refine join_intro ?_ ?_); (next => exact rfl)) | (with_reducible refine hN _ ?_; (try (clear hG; clear Kg)); clear hN hX hR; clear Kv) | (with_reducible refine hX _ _ ?_; (try (clear hG; clear Kg)); clear hN hX hR; clear Kv) | (with_reducible refine hR _ ?_; (try (clear hG; clear Kg)); clear hN hX hR; clear Kv) | ((conv => whnf); first | with_reducible rfl | with_reducible exact True.intro | with_reducible refine (fun (_ : (_ : Prop)) => ?_) | with_reducible refine And.intro ?_ ?_ | (with_reducible refine hN _ ?_; (try (clear hG; clear Kg)); clear hN hX hR; clear Kv) | (with_reducible refine hX _ _ ?_; (try (clear hG; clear Kg)); clear hN hX hR; clear Kv) | (with_reducible refine hR _ ?_; (try (clear hG; clear Kg)); clear hN hX hR; clear Kv) | with_reducible refine body_stop (fun Kv hN hX hR => ?_) | with_reducible refine Stop.mk ?_ | with_reducible refine Join.mk ⟨fun Kv hN hX hR => ?_, ?_⟩ | with_reducible refine DrawJ.each ?_ | with_reducible exact SubJ.self _ | with_reducible refine SubJ.of ?_ | with_reducible refine fill2_step (fun Kf hF => ?_) | with_reducible refine fill2_nil ?_ | with_reducible refine node2_step (fun Kg hG => ?_) | (with_reducible refine hF _ _ ?_; clear hF; clear Kf) | (with_reducible refine hG _ _ _ _ ?_; clear hG; clear Kg)))); all_goals (conv => whnf); all_goals (repeat ((try (clear hG; clear Kg)); clear hN hX hR; clear Kv))
  all_goals first
    | (have h := of_decide_eq_false (nf (by with_reducible assumption))
       exact (decide_eq_false (fun e => h (by rw [e]))).symm)
    | (refine ⟨0, ⟨by omega, by intros; omega⟩, ?_⟩
       (repeat' (first | ((with_reducible refine body_intro ?_); (first | ((with_reducible refine seq_intro ?_ (fun Kv hN hX hR => ?_)); (next => exact rfl)) | ((with_reducible refine join_intro ?_ ?_); (next => exact rfl)) | (conv => whnf))) | with_reducible refine body_stop (fun Kv hN hX hR => ?_) | with_reducible refine Stop.mk ?_ | with_reducible refine Join.mk ⟨fun Kv hN hX hR => ?_, ?_⟩ | with_reducible refine DrawJ.each ?_ | with_reducible exact SubJ.self _ | with_reducible refine SubJ.of ?_ | with_reducible refine fill2_step (fun Kf hF => ?_) | with_reducible refine fill2_nil ?_ | with_reducible refine node2_step (fun Kg hG => ?_) | (with_reducible refine hF _ _ ?_; clear hF; clear Kf) | (with_reducible refine hG _ _ _ _ ?_; clear hG; clear Kg) | ((with_reducible refine seq_intro ?_ (fun Kv hN hX hR => ?_)); (next => exact rfl)) | ((with_reducible refine join_intro ?_ ?_); (next => exact rfl)) | (with_reducible refine hN _ ?_; (try (clear hG; clear Kg)); clear hN hX hR; clear Kv) | (with_reducible refine hX _ _ ?_; (try (clear hG; clear Kg)); clear hN hX hR; clear Kv) | (with_reducible refine hR _ ?_; (try (clear hG; clear Kg)); clear hN hX hR; clear Kv) | ((conv => whnf); first | with_reducible rfl | with_reducible exact True.intro | with_reducible intro _ | with_reducible refine And.intro ?_ ?_ | (with_reducible refine hN _ ?_; (try (clear hG; clear Kg)); clear hN hX hR; clear Kv) | (with_reducible refine hX _ _ ?_; (try (clear hG; clear Kg)); clear hN hX hR; clear Kv) | (with_reducible refine hR _ ?_; (try (clear hG; clear Kg)); clear hN hX hR; clear Kv) | with_reducible refine body_stop (fun Kv hN hX hR => ?_) | with_reducible refine Stop.mk ?_ | with_reducible refine Join.mk ⟨fun Kv hN hX hR => ?_, ?_⟩ | with_reducible refine DrawJ.each ?_ | with_reducible exact SubJ.self _ | with_reducible refine SubJ.of ?_ | with_reducible refine fill2_step (fun Kf hF => ?_) | with_reducible refine fill2_nil ?_ | with_reducible refine node2_step (fun Kg hG => ?_) | (with_reducible refine hF _ _ ?_; clear hF; clear Kf) | (with_reducible refine hG _ _ _ _ ?_; clear hG; clear Kg)))); all_goals (conv => whnf); all_goals (repeat ((try (clear hG; clear Kg)); clear hN hX hR; clear Kv))
       all_goals rfl)
    | (with_reducible intro i hi
       have hl : (xs.length : Int) = ys.length := of_decide_eq_true (nt (by with_reducible assumption))
       (repeat' (first | ((with_reducible refine body_intro ?_); (first | ((with_reducible refine seq_intro ?_ (fun Kv hN hX hR => ?_)); (next => exact rfl)) | ((with_reducible refine join_intro ?_ ?_); (next => exact rfl)) | (conv => whnf))) | with_reducible refine body_stop (fun Kv hN hX hR => ?_) | with_reducible refine Stop.mk ?_ | with_reducible refine Join.mk ⟨fun Kv hN hX hR => ?_, ?_⟩ | with_reducible refine DrawJ.each ?_ | with_reducible exact SubJ.self _ | with_reducible refine SubJ.of ?_ | with_reducible refine fill2_step (fun Kf hF => ?_) | with_reducible refine fill2_nil ?_ | with_reducible refine node2_step (fun Kg hG => ?_) | (with_reducible refine hF _ _ ?_; clear hF; clear Kf) | (with_reducible refine hG _ _ _ _ ?_; clear hG; clear Kg) | ((with_reducible refine seq_intro ?_ (fun Kv hN hX hR => ?_)); (next => exact rfl)) | ((with_reducible refine join_intro ?_ ?_); (next => exact rfl)) | (with_reducible refine hN _ ?_; (try (clear hG; clear Kg)); clear hN hX hR; clear Kv) | (with_reducible refine hX _ _ ?_; (try (clear hG; clear Kg)); clear hN hX hR; clear Kv) | (with_reducible refine hR _ ?_; (try (clear hG; clear Kg)); clear hN hX hR; clear Kv) | ((conv => whnf); first | with_reducible rfl | with_reducible exact True.intro | with_reducible intro _ | with_reducible refine And.intro ?_ ?_ | (with_reducible refine hN _ ?_; (try (clear hG; clear Kg)); clear hN hX hR; clear Kv) | (with_reducible refine hX _ _ ?_; (try (clear hG; clear Kg)); clear hN hX hR; clear Kv) | (with_reducible refine hR _ ?_; (try (clear hG; clear Kg)); clear hN hX hR; clear Kv) | with_reducible refine body_stop (fun Kv hN hX hR => ?_) | with_reducible refine Stop.mk ?_ | with_reducible refine Join.mk ⟨fun Kv hN hX hR => ?_, ?_⟩ | with_reducible refine DrawJ.each ?_ | with_reducible exact SubJ.self _ | with_reducible refine SubJ.of ?_ | with_reducible refine fill2_step (fun Kf hF => ?_) | with_reducible refine fill2_nil ?_ | with_reducible refine node2_step (fun Kg hG => ?_) | (with_reducible refine hF _ _ ?_; clear hF; clear Kf) | (with_reducible refine hG _ _ _ _ ?_; clear hG; clear Kg)))); all_goals (conv => whnf); all_goals (repeat ((try (clear hG; clear Kg)); clear hN hX hR; clear Kv))
       all_goals (try simp only [Int.toNat_natCast] at *)
       all_goals first
         | (have h := of_decide_eq_true (show decide ((i : Int) < (xs.length : Nat)) = true by with_reducible assumption)
            exact Ob.mk ⟨by omega, by omega⟩)
         | (have h := of_decide_eq_true (show decide ((i : Int) < (xs.length : Nat)) = true by with_reducible assumption)
            have h3 : ¬ (xs.getD i default = ys.getD i default) := by
              intro e
              simp_all
              done
            exact (decide_eq_false (fun e => h3 (by rw [e]))).symm)
         | (have h := of_decide_eq_true (show decide ((i : Int) < (xs.length : Nat)) = true by with_reducible assumption)
            have h3 : xs.getD i default = ys.getD i default := by
              have key : ∀ p q : GItem, (!(decide (p.key = q.key) && (decide (p.ver.count = q.ver.count) && (decide (p.ver.writer = q.ver.writer) && (decide (p.value = q.value) && p.gone == q.gone))))) = false → p = q := by
                rintro ⟨_, ⟨_, _⟩, _, _⟩ ⟨_, ⟨_, _⟩, _, _⟩ h
                simp_all
              exact key _ _ (by with_reducible assumption)
            refine ⟨i + 1, ⟨by omega, fun j hj => ?_⟩, by show xs.length - (i + 1) < xs.length - i; omega, ?_⟩
            · rcases Nat.lt_succ_iff_lt_or_eq.1 hj with h4 | h4
              · exact hi.2 j h4
              · subst h4; exact h3
            · (repeat' (first | ((with_reducible refine body_intro ?_); (first | ((with_reducible refine seq_intro ?_ (fun Kv hN hX hR => ?_)); (next => exact rfl)) | ((with_reducible refine join_intro ?_ ?_); (next => exact rfl)) | (conv => whnf))) | with_reducible refine body_stop (fun Kv hN hX hR => ?_) | with_reducible refine Stop.mk ?_ | with_reducible refine Join.mk ⟨fun Kv hN hX hR => ?_, ?_⟩ | with_reducible refine DrawJ.each ?_ | with_reducible exact SubJ.self _ | with_reducible refine SubJ.of ?_ | with_reducible refine fill2_step (fun Kf hF => ?_) | with_reducible refine fill2_nil ?_ | with_reducible refine node2_step (fun Kg hG => ?_) | (with_reducible refine hF _ _ ?_; clear hF; clear Kf) | (with_reducible refine hG _ _ _ _ ?_; clear hG; clear Kg) | ((with_reducible refine seq_intro ?_ (fun Kv hN hX hR => ?_)); (next => exact rfl)) | ((with_reducible refine join_intro ?_ ?_); (next => exact rfl)) | (with_reducible refine hN _ ?_; (try (clear hG; clear Kg)); clear hN hX hR; clear Kv) | (with_reducible refine hX _ _ ?_; (try (clear hG; clear Kg)); clear hN hX hR; clear Kv) | (with_reducible refine hR _ ?_; (try (clear hG; clear Kg)); clear hN hX hR; clear Kv) | ((conv => whnf); first | with_reducible rfl | with_reducible exact True.intro | with_reducible intro _ | with_reducible refine And.intro ?_ ?_ | (with_reducible refine hN _ ?_; (try (clear hG; clear Kg)); clear hN hX hR; clear Kv) | (with_reducible refine hX _ _ ?_; (try (clear hG; clear Kg)); clear hN hX hR; clear Kv) | (with_reducible refine hR _ ?_; (try (clear hG; clear Kg)); clear hN hX hR; clear Kv) | with_reducible refine body_stop (fun Kv hN hX hR => ?_) | with_reducible refine Stop.mk ?_ | with_reducible refine Join.mk ⟨fun Kv hN hX hR => ?_, ?_⟩ | with_reducible refine DrawJ.each ?_ | with_reducible exact SubJ.self _ | with_reducible refine SubJ.of ?_ | with_reducible refine fill2_step (fun Kf hF => ?_) | with_reducible refine fill2_nil ?_ | with_reducible refine node2_step (fun Kg hG => ?_) | (with_reducible refine hF _ _ ?_; clear hF; clear Kf) | (with_reducible refine hG _ _ _ _ ?_; clear hG; clear Kg)))); all_goals (conv => whnf); all_goals (repeat ((try (clear hG; clear Kg)); clear hN hX hR; clear Kv))
              all_goals first
                | exact wrapI (by omega) (by omega)
                | rfl)
         | (have h := of_decide_eq_false (show decide ((i : Int) < (xs.length : Nat)) = false by with_reducible assumption)
            exact (decide_eq_true (eq_of_take (d := default) (by omega) fun j hj => hi.2 j (by omega))).symm)
         | trace_state)
    | trace_state
end Go.Proofs.Ytmhieddhmebfhaa

/- Contracts: the laws' comparisons: Tolds. -/
namespace Go.Proofs.Ytmhieddhmebfhaa
open Go.RowKit

theorem k_SameTolds : Known Try.prog tau 20 (S2 dTolds dTolds fun a b => okB (decide (a = b))) := by
  refine known2 hmix tau_ok ctx_nil (fn := Try.f20) (by kernel_rfl) [(6, [(0, 0), (1, 0), (2, 3), (3, 4), (4, 0), (5, 0), (6, 48), (7, 64), (8, 136)])] (by kernel_rfl) _ _ _ fun xs ys hfit => ⟨rfl,
    [(4, invN [4, 5, 11, 12, 13, 14, 15, 16, 17, 18, 19, 20, 21, 22, 23, 24, 25] (fun i => i ≤ xs.length ∧ ∀ j, j < i → xs.getD j default = ys.getD j default) (fun i => withS [(5, .int .i64 i)]) (fun i => xs.length - i))], ?_⟩
  have hlen : xs.length * 24 ≤ 140737488355328 := hfit.1
  clear hfit
  (repeat' (first | ((with_reducible refine body_intro ?_); (first | ((with_reducible refine seq_intro ?_ (fun Kv hN hX hR => ?_)); (next => exact rfl)) | ((with_reducible refine join_intro ?_ ?_); (next => exact rfl)) | (conv => whnf))) | with_reducible refine body_stop (fun Kv hN hX hR => ?_) | with_reducible refine Stop.mk ?_ | with_reducible refine Join.mk ⟨fun Kv hN hX hR => ?_, ?_⟩ | with_reducible refine DrawJ.each ?_ | with_reducible exact SubJ.self _ | with_reducible refine SubJ.of ?_ | with_reducible refine fill2_step (fun Kf hF => ?_) | with_reducible refine fill2_nil ?_ | with_reducible refine node2_step (fun Kg hG => ?_) | (with_reducible refine hF _ _ ?_; clear hF; clear Kf) | (with_reducible refine hG _ _ _ _ ?_; clear hG; clear Kg) | ((with_reducible refine seq_intro ?_ (fun Kv hN hX hR => ?_)); (next => exact rfl)) | ((with_reducible refine join_intro ?_ ?_); (next => exact rfl)) | (with_reducible refine hN _ ?_; (try (clear hG; clear Kg)); clear hN hX hR; clear Kv) | (with_reducible refine hX _ _ ?_; (try (clear hG; clear Kg)); clear hN hX hR; clear Kv) | (with_reducible refine hR _ ?_; (try (clear hG; clear Kg)); clear hN hX hR; clear Kv) | ((conv => whnf); first | with_reducible rfl | with_reducible exact True.intro | with_reducible refine (fun (_ : (_ : Prop)) => ?_) | with_reducible refine And.intro ?_ ?_ | (with_reducible refine hN _ ?_; (try (clear hG; clear Kg)); clear hN hX hR; clear Kv) | (with_reducible refine hX _ _ ?_; (try (clear hG; clear Kg)); clear hN hX hR; clear Kv) | (with_reducible refine hR _ ?_; (try (clear hG; clear Kg)); clear hN hX hR; clear Kv) | with_reducible refine body_stop (fun Kv hN hX hR => ?_) | with_reducible refine Stop.mk ?_ | with_reducible refine Join.mk ⟨fun Kv hN hX hR => ?_, ?_⟩ | with_reducible refine DrawJ.each ?_ | with_reducible exact SubJ.self _ | with_reducible refine SubJ.of ?_ | with_reducible refine fill2_step (fun Kf hF => ?_) | with_reducible refine fill2_nil ?_ | with_reducible refine node2_step (fun Kg hG => ?_) | (with_reducible refine hF _ _ ?_; clear hF; clear Kf) | (with_reducible refine hG _ _ _ _ ?_; clear hG; clear Kg)))); all_goals (conv => whnf); all_goals (repeat ((try (clear hG; clear Kg)); clear hN hX hR; clear Kv))
  all_goals first
    | (have h := of_decide_eq_false (nf (by with_reducible assumption))
       exact (decide_eq_false (fun e => h (by rw [e]))).symm)
    | (refine ⟨0, ⟨by omega, by intros; omega⟩, ?_⟩
       (repeat' (first | ((with_reducible refine body_intro ?_); (first | ((with_reducible refine seq_intro ?_ (fun Kv hN hX hR => ?_)); (next => exact rfl)) | ((with_reducible refine join_intro ?_ ?_); (next => exact rfl)) | (conv => whnf))) | with_reducible refine body_stop (fun Kv hN hX hR => ?_) | with_reducible refine Stop.mk ?_ | with_reducible refine Join.mk ⟨fun Kv hN hX hR => ?_, ?_⟩ | with_reducible refine DrawJ.each ?_ | with_reducible exact SubJ.self _ | with_reducible refine SubJ.of ?_ | with_reducible refine fill2_step (fun Kf hF => ?_) | with_reducible refine fill2_nil ?_ | with_reducible refine node2_step (fun Kg hG => ?_) | (with_reducible refine hF _ _ ?_; clear hF; clear Kf) | (with_reducible refine hG _ _ _ _ ?_; clear hG; clear Kg) | ((with_reducible refine seq_intro ?_ (fun Kv hN hX hR => ?_)); (next => exact rfl)) | ((with_reducible refine join_intro ?_ ?_); (next => exact rfl)) | (with_reducible refine hN _ ?_; (try (clear hG; clear Kg)); clear hN hX hR; clear Kv) | (with_reducible refine hX _ _ ?_; (try (clear hG; clear Kg)); clear hN hX hR; clear Kv) | (with_reducible refine hR _ ?_; (try (clear hG; clear Kg)); clear hN hX hR; clear Kv) | ((conv => whnf); first | with_reducible rfl | with_reducible exact True.intro | with_reducible intro _ | with_reducible refine And.intro ?_ ?_ | (with_reducible refine hN _ ?_; (try (clear hG; clear Kg)); clear hN hX hR; clear Kv) | (with_reducible refine hX _ _ ?_; (try (clear hG; clear Kg)); clear hN hX hR; clear Kv) | (with_reducible refine hR _ ?_; (try (clear hG; clear Kg)); clear hN hX hR; clear Kv) | with_reducible refine body_stop (fun Kv hN hX hR => ?_) | with_reducible refine Stop.mk ?_ | with_reducible refine Join.mk ⟨fun Kv hN hX hR => ?_, ?_⟩ | with_reducible refine DrawJ.each ?_ | with_reducible exact SubJ.self _ | with_reducible refine SubJ.of ?_ | with_reducible refine fill2_step (fun Kf hF => ?_) | with_reducible refine fill2_nil ?_ | with_reducible refine node2_step (fun Kg hG => ?_) | (with_reducible refine hF _ _ ?_; clear hF; clear Kf) | (with_reducible refine hG _ _ _ _ ?_; clear hG; clear Kg)))); all_goals (conv => whnf); all_goals (repeat ((try (clear hG; clear Kg)); clear hN hX hR; clear Kv))
       all_goals rfl)
    | (with_reducible intro i hi
       have hl : (xs.length : Int) = ys.length := of_decide_eq_true (nt (by with_reducible assumption))
       (repeat' (first | ((with_reducible refine body_intro ?_); (first | ((with_reducible refine seq_intro ?_ (fun Kv hN hX hR => ?_)); (next => exact rfl)) | ((with_reducible refine join_intro ?_ ?_); (next => exact rfl)) | (conv => whnf))) | with_reducible refine body_stop (fun Kv hN hX hR => ?_) | with_reducible refine Stop.mk ?_ | with_reducible refine Join.mk ⟨fun Kv hN hX hR => ?_, ?_⟩ | with_reducible refine DrawJ.each ?_ | with_reducible exact SubJ.self _ | with_reducible refine SubJ.of ?_ | with_reducible refine fill2_step (fun Kf hF => ?_) | with_reducible refine fill2_nil ?_ | with_reducible refine node2_step (fun Kg hG => ?_) | (with_reducible refine hF _ _ ?_; clear hF; clear Kf) | (with_reducible refine hG _ _ _ _ ?_; clear hG; clear Kg) | ((with_reducible refine seq_intro ?_ (fun Kv hN hX hR => ?_)); (next => exact rfl)) | ((with_reducible refine join_intro ?_ ?_); (next => exact rfl)) | (with_reducible refine hN _ ?_; (try (clear hG; clear Kg)); clear hN hX hR; clear Kv) | (with_reducible refine hX _ _ ?_; (try (clear hG; clear Kg)); clear hN hX hR; clear Kv) | (with_reducible refine hR _ ?_; (try (clear hG; clear Kg)); clear hN hX hR; clear Kv) | ((conv => whnf); first | with_reducible rfl | with_reducible exact True.intro | with_reducible intro _ | with_reducible refine And.intro ?_ ?_ | (with_reducible refine hN _ ?_; (try (clear hG; clear Kg)); clear hN hX hR; clear Kv) | (with_reducible refine hX _ _ ?_; (try (clear hG; clear Kg)); clear hN hX hR; clear Kv) | (with_reducible refine hR _ ?_; (try (clear hG; clear Kg)); clear hN hX hR; clear Kv) | with_reducible refine body_stop (fun Kv hN hX hR => ?_) | with_reducible refine Stop.mk ?_ | with_reducible refine Join.mk ⟨fun Kv hN hX hR => ?_, ?_⟩ | with_reducible refine DrawJ.each ?_ | with_reducible exact SubJ.self _ | with_reducible refine SubJ.of ?_ | with_reducible refine fill2_step (fun Kf hF => ?_) | with_reducible refine fill2_nil ?_ | with_reducible refine node2_step (fun Kg hG => ?_) | (with_reducible refine hF _ _ ?_; clear hF; clear Kf) | (with_reducible refine hG _ _ _ _ ?_; clear hG; clear Kg)))); all_goals (conv => whnf); all_goals (repeat ((try (clear hG; clear Kg)); clear hN hX hR; clear Kv))
       all_goals (try simp only [Int.toNat_natCast] at *)
       all_goals first
         | (have h := of_decide_eq_true (show decide ((i : Int) < (xs.length : Nat)) = true by with_reducible assumption)
            exact Ob.mk ⟨by omega, by omega⟩)
         | (have h := of_decide_eq_true (show decide ((i : Int) < (xs.length : Nat)) = true by with_reducible assumption)
            have h3 : ¬ (xs.getD i default = ys.getD i default) := by
              intro e
              simp_all
              done
            exact (decide_eq_false (fun e => h3 (by rw [e]))).symm)
         | (have h := of_decide_eq_true (show decide ((i : Int) < (xs.length : Nat)) = true by with_reducible assumption)
            have h3 : xs.getD i default = ys.getD i default := by
              simp only [Bool.not_eq_false', Bool.and_eq_true, decide_eq_true_eq] at *
              first
                | assumption
                | (rename_i h4; cases hx : xs.getD i default; cases hy : ys.getD i default; simp_all)
            refine ⟨i + 1, ⟨by omega, fun j hj => ?_⟩, by show xs.length - (i + 1) < xs.length - i; omega, ?_⟩
            · rcases Nat.lt_succ_iff_lt_or_eq.1 hj with h4 | h4
              · exact hi.2 j h4
              · subst h4; exact h3
            · (repeat' (first | ((with_reducible refine body_intro ?_); (first | ((with_reducible refine seq_intro ?_ (fun Kv hN hX hR => ?_)); (next => exact rfl)) | ((with_reducible refine join_intro ?_ ?_); (next => exact rfl)) | (conv => whnf))) | with_reducible refine body_stop (fun Kv hN hX hR => ?_) | with_reducible refine Stop.mk ?_ | with_reducible refine Join.mk ⟨fun Kv hN hX hR => ?_, ?_⟩ | with_reducible refine DrawJ.each ?_ | with_reducible exact SubJ.self _ | with_reducible refine SubJ.of ?_ | with_reducible refine fill2_step (fun Kf hF => ?_) | with_reducible refine fill2_nil ?_ | with_reducible refine node2_step (fun Kg hG => ?_) | (with_reducible refine hF _ _ ?_; clear hF; clear Kf) | (with_reducible refine hG _ _ _ _ ?_; clear hG; clear Kg) | ((with_reducible refine seq_intro ?_ (fun Kv hN hX hR => ?_)); (next => exact rfl)) | ((with_reducible refine join_intro ?_ ?_); (next => exact rfl)) | (with_reducible refine hN _ ?_; (try (clear hG; clear Kg)); clear hN hX hR; clear Kv) | (with_reducible refine hX _ _ ?_; (try (clear hG; clear Kg)); clear hN hX hR; clear Kv) | (with_reducible refine hR _ ?_; (try (clear hG; clear Kg)); clear hN hX hR; clear Kv) | ((conv => whnf); first | with_reducible rfl | with_reducible exact True.intro | with_reducible intro _ | with_reducible refine And.intro ?_ ?_ | (with_reducible refine hN _ ?_; (try (clear hG; clear Kg)); clear hN hX hR; clear Kv) | (with_reducible refine hX _ _ ?_; (try (clear hG; clear Kg)); clear hN hX hR; clear Kv) | (with_reducible refine hR _ ?_; (try (clear hG; clear Kg)); clear hN hX hR; clear Kv) | with_reducible refine body_stop (fun Kv hN hX hR => ?_) | with_reducible refine Stop.mk ?_ | with_reducible refine Join.mk ⟨fun Kv hN hX hR => ?_, ?_⟩ | with_reducible refine DrawJ.each ?_ | with_reducible exact SubJ.self _ | with_reducible refine SubJ.of ?_ | with_reducible refine fill2_step (fun Kf hF => ?_) | with_reducible refine fill2_nil ?_ | with_reducible refine node2_step (fun Kg hG => ?_) | (with_reducible refine hF _ _ ?_; clear hF; clear Kf) | (with_reducible refine hG _ _ _ _ ?_; clear hG; clear Kg)))); all_goals (conv => whnf); all_goals (repeat ((try (clear hG; clear Kg)); clear hN hX hR; clear Kv))
              all_goals first
                | exact wrapI (by omega) (by omega)
                | rfl)
         | (have h := of_decide_eq_false (show decide ((i : Int) < (xs.length : Nat)) = false by with_reducible assumption)
            exact (decide_eq_true (eq_of_take (d := default) (by omega) fun j hj => hi.2 j (by omega))).symm)
         | trace_state)
    | trace_state
end Go.Proofs.Ytmhieddhmebfhaa

/- Chapter 16: the laws' functions. -/
namespace Go.Proofs.Ytmhieddhmebfhaa
open Go.RowKit

theorem k_SameView : Known Try.prog tau 34 (S2 dView dView fun a b => okB (decide (a = b))) := by
  refine known2 hmix tau_ok (ctx_cons k_SamePeers (ctx_cons k_SameInts ctx_nil)) (fn := Try.f34) (by kernel_rfl) [] (by kernel_rfl) _ _ _ fun a b hfit => ⟨rfl, [], ?_⟩
  clear hfit
  (repeat' (first | ((with_reducible refine body_intro ?_); (first | ((with_reducible refine seq_intro ?_ (fun Kv hN hX hR => ?_)); (next => exact rfl)) | ((with_reducible refine join_intro ?_ ?_); (next => exact rfl)) | (conv => whnf))) | with_reducible refine body_stop (fun Kv hN hX hR => ?_) | with_reducible refine Stop.mk ?_ | with_reducible refine Join.mk ⟨fun Kv hN hX hR => ?_, ?_⟩ | with_reducible refine DrawJ.each ?_ | with_reducible exact SubJ.self _ | with_reducible refine SubJ.of ?_ | with_reducible refine fill2_step (fun Kf hF => ?_) | with_reducible refine fill2_nil ?_ | with_reducible refine node2_step (fun Kg hG => ?_) | (with_reducible refine hF _ _ ?_; clear hF; clear Kf) | (with_reducible refine hG _ _ _ _ ?_; clear hG; clear Kg) | ((with_reducible refine seq_intro ?_ (fun Kv hN hX hR => ?_)); (next => exact rfl)) | ((with_reducible refine join_intro ?_ ?_); (next => exact rfl)) | (with_reducible refine hN _ ?_; (try (clear hG; clear Kg)); clear hN hX hR; clear Kv) | (with_reducible refine hX _ _ ?_; (try (clear hG; clear Kg)); clear hN hX hR; clear Kv) | (with_reducible refine hR _ ?_; (try (clear hG; clear Kg)); clear hN hX hR; clear Kv) | ((conv => whnf); first | with_reducible rfl | with_reducible exact True.intro | with_reducible intro _ | with_reducible refine And.intro ?_ ?_ | (with_reducible refine hN _ ?_; (try (clear hG; clear Kg)); clear hN hX hR; clear Kv) | (with_reducible refine hX _ _ ?_; (try (clear hG; clear Kg)); clear hN hX hR; clear Kv) | (with_reducible refine hR _ ?_; (try (clear hG; clear Kg)); clear hN hX hR; clear Kv) | with_reducible refine body_stop (fun Kv hN hX hR => ?_) | with_reducible refine Stop.mk ?_ | with_reducible refine Join.mk ⟨fun Kv hN hX hR => ?_, ?_⟩ | with_reducible refine DrawJ.each ?_ | with_reducible exact SubJ.self _ | with_reducible refine SubJ.of ?_ | with_reducible refine fill2_step (fun Kf hF => ?_) | with_reducible refine fill2_nil ?_ | with_reducible refine node2_step (fun Kg hG => ?_) | (with_reducible refine hF _ _ ?_; clear hF; clear Kf) | (with_reducible refine hG _ _ _ _ ?_; clear hG; clear Kg)))); all_goals (conv => whnf); all_goals (repeat ((try (clear hG; clear Kg)); clear hN hX hR; clear Kv))
  all_goals (cases a; cases b; simp_all)
theorem k_SameNode : Known Try.prog tau 14 (S2 dNode dNode fun a b => okB (decide (a = b))) := by
  refine known2 hmix tau_ok (ctx_cons k_SameView (ctx_cons k_SameItems (ctx_cons k_SameTolds ctx_nil))) (fn := Try.f14) (by kernel_rfl) [] (by kernel_rfl) _ _ _ fun a b hfit => ⟨rfl, [], ?_⟩
  clear hfit
  (repeat' (first | ((with_reducible refine body_intro ?_); (first | ((with_reducible refine seq_intro ?_ (fun Kv hN hX hR => ?_)); (next => exact rfl)) | ((with_reducible refine join_intro ?_ ?_); (next => exact rfl)) | (conv => whnf))) | with_reducible refine body_stop (fun Kv hN hX hR => ?_) | with_reducible refine Stop.mk ?_ | with_reducible refine Join.mk ⟨fun Kv hN hX hR => ?_, ?_⟩ | with_reducible refine DrawJ.each ?_ | with_reducible exact SubJ.self _ | with_reducible refine SubJ.of ?_ | with_reducible refine fill2_step (fun Kf hF => ?_) | with_reducible refine fill2_nil ?_ | with_reducible refine node2_step (fun Kg hG => ?_) | (with_reducible refine hF _ _ ?_; clear hF; clear Kf) | (with_reducible refine hG _ _ _ _ ?_; clear hG; clear Kg) | ((with_reducible refine seq_intro ?_ (fun Kv hN hX hR => ?_)); (next => exact rfl)) | ((with_reducible refine join_intro ?_ ?_); (next => exact rfl)) | (with_reducible refine hN _ ?_; (try (clear hG; clear Kg)); clear hN hX hR; clear Kv) | (with_reducible refine hX _ _ ?_; (try (clear hG; clear Kg)); clear hN hX hR; clear Kv) | (with_reducible refine hR _ ?_; (try (clear hG; clear Kg)); clear hN hX hR; clear Kv) | ((conv => whnf); first | with_reducible rfl | with_reducible exact True.intro | with_reducible intro _ | with_reducible refine And.intro ?_ ?_ | (with_reducible refine hN _ ?_; (try (clear hG; clear Kg)); clear hN hX hR; clear Kv) | (with_reducible refine hX _ _ ?_; (try (clear hG; clear Kg)); clear hN hX hR; clear Kv) | (with_reducible refine hR _ ?_; (try (clear hG; clear Kg)); clear hN hX hR; clear Kv) | with_reducible refine body_stop (fun Kv hN hX hR => ?_) | with_reducible refine Stop.mk ?_ | with_reducible refine Join.mk ⟨fun Kv hN hX hR => ?_, ?_⟩ | with_reducible refine DrawJ.each ?_ | with_reducible exact SubJ.self _ | with_reducible refine SubJ.of ?_ | with_reducible refine fill2_step (fun Kf hF => ?_) | with_reducible refine fill2_nil ?_ | with_reducible refine node2_step (fun Kg hG => ?_) | (with_reducible refine hF _ _ ?_; clear hF; clear Kf) | (with_reducible refine hG _ _ _ _ ?_; clear hG; clear Kg)))); all_goals (conv => whnf); all_goals (repeat ((try (clear hG; clear Kg)); clear hN hX hR; clear Kv))
  all_goals (rcases a with ⟨a1, ⟨a2, a3, a4⟩, a5, a6⟩; rcases b with ⟨b1, ⟨b2, b3, b4⟩, b5, b6⟩; simp_all)
def itI (k c : Int) : GItem := ⟨k, ⟨c, 1⟩, bits .and .i64 c 255, false⟩
end Go.Proofs.Ytmhieddhmebfhaa

/- Chapter 11: awake; a view that hears nobody. -/
namespace Go.Proofs.Ytmhieddhmebfhaa
open Go.RowKit
def g11 : GView := ⟨100, [⟨101, 2⟩, ⟨200, 0⟩, ⟨90, 1⟩], [7, 150]⟩
/-- The same, to be reckoned. -/
def withC11 (l : List Int) (x : Int) : List Int × Int := if passB l = true ∧ placeB x = true then (if hasI l x = true then (l, (0 : Int)) else if l.length = 16 then ([], 801) else (insP l x, 0)) else ([], 800)
def foldC : List Int → List Int → List Int
  | acc, [] => acc
  | acc, x :: l => foldC (withC11 acc x).1 l
theorem foldC_eq : ∀ (l acc : List Int), foldW acc l = foldC acc l
  | [], _ => rfl
  | x :: l, acc => by
    unfold foldW foldC
    rw [show withP acc x = withC11 acc x from withP_def acc x, foldC_eq l]
def tickC (v : GView) : GView × List Int × Int := if viewB v = true then ((⟨v.id, leftP v.peers, foldC v.passive (lostP v.peers)⟩ : GView), namesP (leftP v.peers) ++ foldC v.passive (lostP v.peers), (0 : Int)) else (viewZ, [], 1100)
theorem tickC_eq (v : GView) : tickV v = tickC v := by
  rw [tickV_def, foldC_eq]
  rfl
theorem aw11_a : tickV ⟨100, g11.peers, g11.passive⟩ = (⟨100, [⟨200, 1⟩, ⟨90, 2⟩], [7, 101, 150]⟩, [200, 90, 7, 101, 150], 0) := by rw [tickC_eq]; decide
theorem aw11_b : tickV ⟨256, [], []⟩ = (viewZ, [], 1100) := by rw [tickC_eq]; decide
end Go.Proofs.Ytmhieddhmebfhaa

/- Chapter 19: node 100; awake. -/
namespace Go.Proofs.Ytmhieddhmebfhaa
open Go.RowKit
theorem k_it19 : Known Try.prog tau 12 (S2 dInt dInt fun k c => .ok (.agg [.int .i64 k, .int .i64 c, .int .i64 1, .int .i64 (bits .and .i64 c 255), .bool false]) []) := by
  refine known2 hmix tau_ok ctx_nil (fn := Try.f12) (by kernel_rfl) [] (by kernel_rfl) _ _ _ fun k c hfit => ⟨rfl, [], ?_⟩
  clear hfit
  (repeat' (first | ((with_reducible refine body_intro ?_); (first | ((with_reducible refine seq_intro ?_ (fun Kv hN hX hR => ?_)); (next => exact rfl)) | ((with_reducible refine join_intro ?_ ?_); (next => exact rfl)) | (conv => whnf))) | with_reducible refine body_stop (fun Kv hN hX hR => ?_) | with_reducible refine Stop.mk ?_ | with_reducible refine Join.mk ⟨fun Kv hN hX hR => ?_, ?_⟩ | with_reducible refine DrawJ.each ?_ | with_reducible exact SubJ.self _ | with_reducible refine SubJ.of ?_ | with_reducible refine fill2_step (fun Kf hF => ?_) | with_reducible refine fill2_nil ?_ | with_reducible refine node2_step (fun Kg hG => ?_) | (with_reducible refine hF _ _ ?_; clear hF; clear Kf) | (with_reducible refine hG _ _ _ _ ?_; clear hG; clear Kg) | ((with_reducible refine seq_intro ?_ (fun Kv hN hX hR => ?_)); (next => exact rfl)) | ((with_reducible refine join_intro ?_ ?_); (next => exact rfl)) | (with_reducible refine hN _ ?_; (try (clear hG; clear Kg)); clear hN hX hR; clear Kv) | (with_reducible refine hX _ _ ?_; (try (clear hG; clear Kg)); clear hN hX hR; clear Kv) | (with_reducible refine hR _ ?_; (try (clear hG; clear Kg)); clear hN hX hR; clear Kv) | ((conv => whnf); first | with_reducible rfl | with_reducible exact True.intro | with_reducible intro _ | with_reducible refine And.intro ?_ ?_ | (with_reducible refine hN _ ?_; (try (clear hG; clear Kg)); clear hN hX hR; clear Kv) | (with_reducible refine hX _ _ ?_; (try (clear hG; clear Kg)); clear hN hX hR; clear Kv) | (with_reducible refine hR _ ?_; (try (clear hG; clear Kg)); clear hN hX hR; clear Kv) | with_reducible refine body_stop (fun Kv hN hX hR => ?_) | with_reducible refine Stop.mk ?_ | with_reducible refine Join.mk ⟨fun Kv hN hX hR => ?_, ?_⟩ | with_reducible refine DrawJ.each ?_ | with_reducible exact SubJ.self _ | with_reducible refine SubJ.of ?_ | with_reducible refine fill2_step (fun Kf hF => ?_) | with_reducible refine fill2_nil ?_ | with_reducible refine node2_step (fun Kg hG => ?_) | (with_reducible refine hF _ _ ?_; clear hF; clear Kf) | (with_reducible refine hG _ _ _ _ ?_; clear hG; clear Kg)))); all_goals (conv => whnf); all_goals (repeat ((try (clear hG; clear Kg)); clear hN hX hR; clear Kv))
  all_goals rfl
def n19 : GNode := ⟨true, ⟨100, [⟨101, 2⟩, ⟨200, 0⟩, ⟨90, 1⟩], [7]⟩, [⟨95, ⟨1, 1⟩, bits .and .i64 1 255, false⟩, ⟨99, ⟨3, 1⟩, bits .and .i64 3 255, false⟩, ⟨250, ⟨2, 1⟩, bits .and .i64 2 255, false⟩], []⟩
theorem k_node19 : Known Try.prog tau 11 (S0 (.ok (.agg [.bool true, .int .i64 100, .own 0, .own 1, .own 2, .row .new (.tolds [])]) [.peers n19.view.peers, .ints n19.view.passive, .items n19.items])) := by
  refine known0 hmix tau_ok (ctx_cons k_it19 ctx_nil) (fn := Try.f11) (by kernel_rfl) [] (by kernel_rfl) _ fun hfit => ⟨rfl, [], ?_⟩
  clear hfit
  (repeat' (first | ((with_reducible refine body_intro ?_); (first | ((with_reducible refine seq_intro ?_ (fun Kv hN hX hR => ?_)); (next => exact rfl)) | ((with_reducible refine join_intro ?_ ?_); (next => exact rfl)) | (conv => whnf))) | with_reducible refine body_stop (fun Kv hN hX hR => ?_) | with_reducible refine Stop.mk ?_ | with_reducible refine Join.mk ⟨fun Kv hN hX hR => ?_, ?_⟩ | with_reducible refine DrawJ.each ?_ | with_reducible exact SubJ.self _ | with_reducible refine SubJ.of ?_ | with_reducible refine fill2_step (fun Kf hF => ?_) | with_reducible refine fill2_nil ?_ | with_reducible refine node2_step (fun Kg hG => ?_) | (with_reducible refine hF _ _ ?_; clear hF; clear Kf) | (with_reducible refine hG _ _ _ _ ?_; clear hG; clear Kg) | ((with_reducible refine seq_intro ?_ (fun Kv hN hX hR => ?_)); (next => exact rfl)) | ((with_reducible refine join_intro ?_ ?_); (next => exact rfl)) | (with_reducible refine hN _ ?_; (try (clear hG; clear Kg)); clear hN hX hR; clear Kv) | (with_reducible refine hX _ _ ?_; (try (clear hG; clear Kg)); clear hN hX hR; clear Kv) | (with_reducible refine hR _ ?_; (try (clear hG; clear Kg)); clear hN hX hR; clear Kv) | ((conv => whnf); first | with_reducible rfl | with_reducible exact True.intro | with_reducible intro _ | with_reducible refine And.intro ?_ ?_ | (with_reducible refine hN _ ?_; (try (clear hG; clear Kg)); clear hN hX hR; clear Kv) | (with_reducible refine hX _ _ ?_; (try (clear hG; clear Kg)); clear hN hX hR; clear Kv) | (with_reducible refine hR _ ?_; (try (clear hG; clear Kg)); clear hN hX hR; clear Kv) | with_reducible refine body_stop (fun Kv hN hX hR => ?_) | with_reducible refine Stop.mk ?_ | with_reducible refine Join.mk ⟨fun Kv hN hX hR => ?_, ?_⟩ | with_reducible refine DrawJ.each ?_ | with_reducible exact SubJ.self _ | with_reducible refine SubJ.of ?_ | with_reducible refine fill2_step (fun Kf hF => ?_) | with_reducible refine fill2_nil ?_ | with_reducible refine node2_step (fun Kg hG => ?_) | (with_reducible refine hF _ _ ?_; clear hF; clear Kf) | (with_reducible refine hG _ _ _ _ ?_; clear hG; clear Kg)))); all_goals (conv => whnf); all_goals (repeat ((try (clear hG; clear Kg)); clear hN hX hR; clear Kv))
  all_goals first
    | (refine Ob.mk ?_; decide)
    | rfl
    | trace_state
/-- The same, to be reckoned. -/
def ownC (v : GView) (k : Int) : Int := if viewB v = true ∧ placeB k = true then (if rowMayB k (namesP v.peers ++ [v.id]) = true then minP k ((namesP v.peers ++ [v.id]).getD 0 0) ((namesP v.peers ++ [v.id]).drop 1) else 0) else 0
theorem ownC_eq (v : GView) (k : Int) : (ownV v k).1 = ownC v k := by
  rw [ownV_def, ownP_def, ownC]
  split
  · by_cases h : rowMayB k (namesP v.peers ++ [v.id]) = true
    · rw [if_pos ⟨h, by simp⟩, if_pos h]
    · rw [if_neg fun x => h x.1, if_neg h]
  · rfl
def succC (v : GView) : Int := if viewB v = true then (if v.peers.length = 0 then v.id else (namesP v.peers).getD 0 0) else 0
theorem succC_eq (v : GView) : (succV v).1 = succC v := by
  rw [succV_def, succC]
  split
  · split <;> rfl
  · rfl
def shareC (v : GView) : List GItem → List GMsg
  | [] => []
  | i :: l => (if (if ownC v i.key = v.id then succC v else ownC v i.key) = v.id then [] else [(⟨1, v.id, (if ownC v i.key = v.id then succC v else ownC v i.key), [], 0, i, false⟩ : GMsg)]) ++ shareC v l
theorem shareC_eq (v : GView) : ∀ l, shareL v l = shareC v l
  | [] => rfl
  | i :: l => by
    unfold shareL shareC toV
    rw [ownC_eq, succC_eq, shareC_eq v l]
def tickNC (x : GNode) : GNode × List GMsg × Int := if (x.up && nodeB x) = true then ((⟨x.up, (tickC x.view).1, x.items, x.log⟩ : GNode), helloL (tickC x.view).1 (tickC x.view).2.1 ++ (if (x.up && nodeB ⟨x.up, (tickC x.view).1, x.items, x.log⟩) = true then shareC (tickC x.view).1 x.items else []), (0 : Int)) else (nodeZ, [], 1900)
theorem tickNC_eq (x : GNode) : tickN x = tickNC x := by
  rw [tickN_def, shareN_def, tickC_eq, tickNC]
  split
  · congr 3
    split
    · exact shareC_eq _ _
    · rfl
  · rfl
def m19 : List GMsg := (tickNC n19).2.1
theorem aw19_a : tickN ⟨true, ⟨100, n19.view.peers, n19.view.passive⟩, n19.items, []⟩ = (⟨true, ⟨100, [⟨200, 1⟩, ⟨90, 2⟩], [7, 101]⟩, n19.items, []⟩, m19, 0) := by rw [tickNC_eq]; decide
theorem aw19_l : m19.length = 7 := by decide
theorem aw19_z : tickN ⟨false, ⟨0, [], []⟩, [], []⟩ = (nodeZ, [], 1900) := by rw [tickNC_eq]; decide
set_option maxHeartbeats 1000000 in
theorem k_awake19 : Known Try.prog tau 10 (S0 (okB true)) := by
  refine known0 hmix tau_ok (ctx_cons k_node19 (ctx_cons k_tickStep (ctx_cons k_Num (ctx_cons k_SameInts ctx_nil)))) (fn := Try.f10) (by kernel_rfl) [] (by kernel_rfl) _ fun hfit => ⟨rfl, [], ?_⟩
  clear hfit
  (repeat' (first | ((with_reducible refine body_intro ?_); (first | ((with_reducible refine seq_intro ?_ (fun Kv hN hX hR => ?_)); (next => exact rfl)) | ((with_reducible refine join_intro ?_ ?_); (next => exact rfl)) | (conv => whnf))) | with_reducible refine body_stop (fun Kv hN hX hR => ?_) | with_reducible refine Stop.mk ?_ | with_reducible refine Join.mk ⟨fun Kv hN hX hR => ?_, ?_⟩ | with_reducible refine DrawJ.each ?_ | with_reducible exact SubJ.self _ | with_reducible refine SubJ.of ?_ | with_reducible refine fill2_step (fun Kf hF => ?_) | with_reducible refine fill2_nil ?_ | with_reducible refine node2_step (fun Kg hG => ?_) | (with_reducible refine hF _ _ ?_; clear hF; clear Kf) | (with_reducible refine hG _ _ _ _ ?_; clear hG; clear Kg) | ((with_reducible refine seq_intro ?_ (fun Kv hN hX hR => ?_)); (next => exact rfl)) | ((with_reducible refine join_intro ?_ ?_); (next => exact rfl)) | (with_reducible refine hN _ ?_; (try (clear hG; clear Kg)); clear hN hX hR; clear Kv) | (with_reducible refine hX _ _ ?_; (try (clear hG; clear Kg)); clear hN hX hR; clear Kv) | (with_reducible refine hR _ ?_; (try (clear hG; clear Kg)); clear hN hX hR; clear Kv) | ((conv => whnf); first | with_reducible rfl | with_reducible exact True.intro | with_reducible intro _ | with_reducible refine And.intro ?_ ?_ | (with_reducible refine hN _ ?_; (try (clear hG; clear Kg)); clear hN hX hR; clear Kv) | (with_reducible refine hX _ _ ?_; (try (clear hG; clear Kg)); clear hN hX hR; clear Kv) | (with_reducible refine hR _ ?_; (try (clear hG; clear Kg)); clear hN hX hR; clear Kv) | with_reducible refine body_stop (fun Kv hN hX hR => ?_) | with_reducible refine Stop.mk ?_ | with_reducible refine Join.mk ⟨fun Kv hN hX hR => ?_, ?_⟩ | with_reducible refine DrawJ.each ?_ | with_reducible exact SubJ.self _ | with_reducible refine SubJ.of ?_ | with_reducible refine fill2_step (fun Kf hF => ?_) | with_reducible refine fill2_nil ?_ | with_reducible refine node2_step (fun Kg hG => ?_) | (with_reducible refine hF _ _ ?_; clear hF; clear Kf) | (with_reducible refine hG _ _ _ _ ?_; clear hG; clear Kg)))); all_goals (conv => whnf); all_goals (repeat ((try (clear hG; clear Kg)); clear hN hX hR; clear Kv))
  all_goals (try simp only [aw19_a, aw19_z, aw19_l] at *)
  all_goals first
    | (refine Ob.mk ?_; decide)
    | rfl
    | (exfalso; rename_i h; revert h; decide)
    | trace_state
end Go.Proofs.Ytmhieddhmebfhaa

/- Plain: a node's turn. -/
namespace Go.Proofs.Ytmhieddhmebfhaa
open Go.RowKit
theorem tickN_no {x : GNode} (h : (x.up && nodeB x) = false) : tickN x = (nodeZ, [], 1900) := by rw [tickN_def, if_neg (by rw [h]; simp)]
theorem nodeB_view {x : GNode} {w : GView} (h : nodeB x = true) (hu : x.up = true) (hw : viewB w = true) : nodeB ⟨x.up, w, x.items, x.log⟩ = true := by
  unfold nodeB at h ⊢
  simp only [Bool.and_eq_true] at h ⊢
  exact ⟨hw, h.2.1, h.2.2.1, h.2.2.2.1, by rw [hu]; rfl⟩
theorem tickN_yes {x : GNode} (h : (x.up && nodeB x) = true) : tickN x = (⟨x.up, (tickV x.view).1, x.items, x.log⟩, helloL (tickV x.view).1 (tickV x.view).2.1 ++ shareL (tickV x.view).1 x.items, 0) ∧ nodeB ⟨x.up, (tickV x.view).1, x.items, x.log⟩ = true ∧ x.up = true ∧ viewB x.view = true := by
  obtain ⟨b1, b2, b3, b4⟩ := up_view h
  have hb := nodeB_view b2 b1 (tick_ok b3).1
  refine ⟨?_, hb, b1, b3⟩
  rw [tickN_def, if_pos h, shareN_def, if_pos]
  show (x.up && nodeB _) = true
  rw [hb, b1]
  rfl
theorem ownV_alone {v : GView} (hp : v.peers = []) (k : Int) (hk : placeB k = true) (hv : viewB v = true) : (ownV v k).1 = v.id := by
  have hid := (viewB_iff2.1 hv).1
  rw [ownV_def, if_pos ⟨hv, hk⟩, ownP_def, if_pos, hp]
  · rfl
  · rw [hp]
    have hi : placeB v.id = true := by
      have := viewB_iff.1 hv
      simp only [viewB, peersB, Bool.and_eq_true] at hv
      exact hv.1.1
    refine ⟨?_, by simp [namesP]⟩
    simp [rowMayB, hk, hi, namesP]
theorem shareL_none {v : GView} {l : List GItem} (hv : viewB v = true) (hp : v.peers = []) (hl : ∀ i ∈ l, placeB i.key = true) : shareL v l = [] := by
  induction l with
  | nil => rfl
  | cons i l ih =>
    have h1 := ownV_alone hp i.key (hl i List.mem_cons_self) hv
    have h2 : toV v i.key = v.id := by
      unfold toV
      rw [if_pos h1, succV_def, if_pos hv, hp]
      rfl
    unfold shareL
    rw [if_pos h2, ih fun j hj => hl j (List.mem_cons_of_mem _ hj)]
    rfl
theorem store_keys {l : List GItem} (h : storeB l = true) : ∀ i ∈ l, placeB i.key = true := by
  intro i hi
  unfold storeB at h
  simp only [Bool.and_eq_true, List.all_eq_true] at h
  have := h.2.2 i hi
  unfold itemB at this
  simp only [Bool.and_eq_true] at this
  exact this.1
end Go.Proofs.Ytmhieddhmebfhaa

/- Chapter 16: the laws' functions: awake. -/
namespace Go.Proofs.Ytmhieddhmebfhaa
open Go.RowKit

def n100 : GNode := ⟨true, ⟨100, [⟨101, 2⟩, ⟨200, 0⟩, ⟨90, 1⟩], [7]⟩, [⟨95, ⟨1, 1⟩, 1, false⟩, ⟨99, ⟨3, 1⟩, 3, false⟩, ⟨250, ⟨2, 1⟩, 2, false⟩], []⟩
def nOwn (n : GNode) : List SV := [.bool n.up, .int .i64 n.view.id, .own 0, .own 1, .own 2, .row .new (.tolds n.log)]
/-- The same, to be reckoned. -/
def withC (l : List Int) (x : Int) : List Int × Int := if passB l = true ∧ placeB x = true then (if hasI l x = true then (l, (0 : Int)) else if l.length = 16 then ([], 801) else (insP l x, 0)) else ([], 800)
def newC (id : Int) : List Int → List Int → Option (List Int)
  | acc, [] => some acc
  | acc, y :: ys => if y = id then newC id acc ys else if (withC acc y).2 = 0 then newC id (withC acc y).1 ys else none
def nodeC (id : Int) (ids : List Int) : GNode × Int := if placeB id = true then (match newC id [] ids with
  | some l => ((⟨true, ⟨id, [], l⟩, [], []⟩ : GNode), (0 : Int))
  | none => (nodeZ, 1600)) else (nodeZ, 1600)
theorem withC_eq (l : List Int) (x : Int) : withP l x = withC l x := withP_def l x
theorem newC_eq (id : Int) : ∀ (ids acc : List Int), newP id acc ids = newC id acc ids
  | [], acc => rfl
  | y :: ys, acc => by
    unfold newP newC
    rw [withC_eq, newC_eq id ys, newC_eq id ys]
theorem nodeC_eq (id : Int) (ids : List Int) : newN id ids = nodeC id ids := by
  rw [newN_def, newC_eq]
  rfl
theorem aw16_a : newN 5 [9, 5, 3, 9] = (⟨true, ⟨5, [], [3, 9]⟩, [], []⟩, 0) := by rw [nodeC_eq]; decide
theorem aw16_b : newN 256 [] = (nodeZ, 1600) := by rw [nodeC_eq]; decide
theorem aw16_c : newN 5 [-1] = (nodeZ, 1600) := by rw [nodeC_eq]; decide
theorem n100_may : nodeB n100 = true := by decide
theorem aw16_d : nodeB ⟨false, ⟨9, [], []⟩, [], []⟩ = true := by decide
theorem aw16_e : nodeB ⟨false, ⟨9, [], []⟩, [], [⟨0, false, 0⟩]⟩ = false := by decide
end Go.Proofs.Ytmhieddhmebfhaa

/- Chapter 16: a node that is down. -/
namespace Go.Proofs.Ytmhieddhmebfhaa
open Go.RowKit

theorem placeB_iff {x : Int} : placeB x = true ↔ 0 ≤ x ∧ x < 256 := by simp [placeB]
theorem nd_x {k : Int} (hk : placeB k = true) : nodeB ⟨false, ⟨k, [], []⟩, [], []⟩ = true := by
  simp [nodeB, viewB, peersB, passB, storeB, hk]
theorem nd_zv {k : Int} (hk : placeB k = true) : viewB ⟨k, [], []⟩ = true := by simp [viewB, peersB, passB, hk]
theorem nd_z0 {k w : Int} (hk : placeB k = true) (hw : placeB w = true) (h : w ≠ k) : nodeB ⟨true, ⟨k, [⟨w, 0⟩], []⟩, [], []⟩ = true := by
  have hp : peerB k ⟨w, 0⟩ = true := by
    have := (far_pos hk hw).1.2 h
    simp [peerB, hw, this]
  simp [nodeB, viewB, peersB, passB, storeB, hk, hp]
theorem nd_z1 {k w : Int} (hk : placeB k = true) (hw : placeB w = true) (h : w ≠ k) : nodeB ⟨true, ⟨k, [], [w]⟩, [], []⟩ = true := by
  simp [nodeB, viewB, peersB, passB, storeB, hk, hw, oddV, hasP, h]
theorem nd_z2 {k : Int} (hk : placeB k = true) {i : GItem} (hi : itemB i = true) : nodeB ⟨true, ⟨k, [], []⟩, [i], []⟩ = true := by
  simp [nodeB, viewB, peersB, passB, storeB, hk, hi]
theorem nd_z3 {k : Int} (hk : placeB k = true) {t : GTold} (ht : toldB t = true) : nodeB ⟨true, ⟨k, [], []⟩, [], [t]⟩ = true := by
  simp [nodeB, viewB, peersB, passB, storeB, hk, ht]
theorem nd_y {x : GNode} (h : x.up = false) (h2 : x.view.peers.length + x.view.passive.length + x.items.length + x.log.length ≠ 0) : nodeB x = false := by
  rw [nodeB_down h, decide_eq_false h2, Bool.false_and]
end Go.Proofs.Ytmhieddhmebfhaa

/- Chapter 16: nodes, places that may not be. -/
namespace Go.Proofs.Ytmhieddhmebfhaa
open Go.RowKit

def manyL (i : Nat) : List Int := (List.range i).map fun (t : Nat) => IntKind.i64.wrap (3 * (t : Int))
theorem manyL_succ (i : Nat) : manyL (i + 1) = manyL i ++ [IntKind.i64.wrap (3 * (i : Int))] := by
  unfold manyL
  rw [List.range_succ, List.map_append]
  rfl
theorem manyL_len (i : Nat) : (manyL i).length = i := by simp [manyL]
theorem many200 : newN 200 (manyL 17) = (nodeZ, 1600) := by rw [nodeC_eq]; decide
theorem many3 : newN 3 (manyL 17) = (⟨true, ⟨3, [], [0, 6, 9, 12, 15, 18, 21, 24, 27, 30, 33, 36, 39, 42, 45, 48]⟩, [], []⟩, 0) := by rw [nodeC_eq]; decide
theorem bad_log {x : GNode} (h : 64 < x.log.length) : nodeB x = false := by
  unfold nodeB
  rw [decide_eq_false (show ¬ x.log.length ≤ 64 by omega), Bool.false_and, Bool.and_false, Bool.and_false]
theorem bad_told {x : GNode} {t : GTold} (h : t ∈ x.log) (h2 : toldB t = false) : nodeB x = false := by
  unfold nodeB
  rw [List.all_eq_false.2 ⟨t, h, by rw [h2]; simp⟩]
  simp
theorem newN_bad {id : Int} {ids : List Int} (h : placeB id = false) : newN id ids = (nodeZ, 1600) := newN_no (.inl h)
theorem newN_bad2 {id : Int} {ids : List Int} (h : placeB id = true) (h2 : ids.all placeB = false) : newN id ids = (nodeZ, 1600) := newN_no (.inr (newP_bad h h2))
theorem not_placeB {x : Int} (h : x < 0 ∨ 255 < x) : placeB x = false := by
  cases hp : placeB x with
  | false => rfl
  | true => rw [placeB_iff] at hp; omega
theorem bad_id {x : GNode} (h : placeB x.view.id = false) : nodeB x = false := by
  simp [nodeB, viewB, peersB, h]
theorem told_key {t : GTold} (h : placeB t.key = false) : toldB t = false := by simp [toldB, h]
theorem told_val {t : GTold} (h : placeB t.value = false) : toldB t = false := by simp [toldB, h]
theorem told_has {t : GTold} (h : t.has = false) (h2 : t.value ≠ 0) : toldB t = false := by simp [toldB, h, h2]
end Go.Proofs.Ytmhieddhmebfhaa

/- Chapter 19: nodes that may not be; a node ticked twice. -/
namespace Go.Proofs.Ytmhieddhmebfhaa
open Go.RowKit
set_option maxHeartbeats 4000000 in
theorem k_TickForms : Known Try.prog tau 3 (S2 dInt dInt fun a b => okB true) := by
  refine known2 hmix tau_ok (ctx_cons k_awake19 (ctx_cons k_it19 (ctx_cons k_node19 (ctx_cons k_Num (ctx_cons k_tickStep (ctx_cons k_SameNode ctx_nil)))))) (fn := Try.f3) (by kernel_rfl) [] (by kernel_rfl) _ _ _ fun a b hfit => ⟨rfl,
    [(1000013, invX GNode [5, 6] [] (fun n => (n.up && nodeB n) = false) (fun n st => match n with | ⟨u, ⟨i, p, q⟩, r, t⟩ => withS [(5, .int .i64 (1 + b % 1024)), (6, .box 6 0)] (withB [(6, (30, [.bool u, .int .i64 i, .row .any (.peers p), .row .any (.ints q), .row .any (.items r), .row .any (.tolds t)]))] st)) (fun _ => 0))], ?_⟩
  clear hfit
  have hd : IntKind.i64.wrap (1 + bits .and .i64 b 1023) = 1 + b % 1024 := by rw [and1023, wrapI (by omega) (by omega)]
  (repeat' (first | ((with_reducible refine body_intro ?_); (first | ((with_reducible refine seq_intro ?_ (fun Kv hN hX hR => ?_)); (next => exact rfl)) | ((with_reducible refine join_intro ?_ ?_); (next => exact rfl)) | (conv => whnf))) | with_reducible refine body_stop (fun Kv hN hX hR => ?_) | with_reducible refine Stop.mk ?_ | with_reducible refine Join.mk ⟨fun Kv hN hX hR => ?_, ?_⟩ | with_reducible refine DrawJ.each ?_ | with_reducible exact SubJ.self _ | with_reducible refine SubJ.of ?_ | with_reducible refine fill2_step (fun Kf hF => ?_) | with_reducible refine fill2_nil ?_ | with_reducible refine node2_step (fun Kg hG => ?_) | (with_reducible refine hF _ _ ?_; clear hF; clear Kf) | (with_reducible refine hG _ _ _ _ ?_; clear hG; clear Kg) | ((with_reducible refine seq_intro ?_ (fun Kv hN hX hR => ?_)); (next => exact rfl)) | ((with_reducible refine join_intro ?_ ?_); (next => exact rfl)) | (with_reducible refine hN _ ?_; (try (clear hG; clear Kg)); clear hN hX hR; clear Kv) | (with_reducible refine hX _ _ ?_; (try (clear hG; clear Kg)); clear hN hX hR; clear Kv) | (with_reducible refine hR _ ?_; (try (clear hG; clear Kg)); clear hN hX hR; clear Kv) | ((conv => whnf); first | with_reducible rfl | with_reducible exact True.intro | with_reducible refine (fun (_ : (_ : Prop)) => ?_) | with_reducible refine And.intro ?_ ?_ | (with_reducible refine hN _ ?_; (try (clear hG; clear Kg)); clear hN hX hR; clear Kv) | (with_reducible refine hX _ _ ?_; (try (clear hG; clear Kg)); clear hN hX hR; clear Kv) | (with_reducible refine hR _ ?_; (try (clear hG; clear Kg)); clear hN hX hR; clear Kv) | with_reducible refine body_stop (fun Kv hN hX hR => ?_) | with_reducible refine Stop.mk ?_ | with_reducible refine Join.mk ⟨fun Kv hN hX hR => ?_, ?_⟩ | with_reducible refine DrawJ.each ?_ | with_reducible exact SubJ.self _ | with_reducible refine SubJ.of ?_ | with_reducible refine fill2_step (fun Kf hF => ?_) | with_reducible refine fill2_nil ?_ | with_reducible refine node2_step (fun Kg hG => ?_) | (with_reducible refine hF _ _ ?_; clear hF; clear Kf) | (with_reducible refine hG _ _ _ _ ?_; clear hG; clear Kg)))); all_goals (conv => whnf); all_goals (repeat ((try (clear hG; clear Kg)); clear hN hX hR; clear Kv))
  all_goals first
    | exact absurd (show (!true) = true by with_reducible assumption) (by decide)
    | (refine Ob.mk ?_; decide)
    | (refine Ob.mk ?_
       simp only [kdBytes, hd]
       rw [wrapI (by omega) (by omega)]
       omega)
    | (refine ⟨⟨?_, ⟨?_, ?_, ?_⟩, ?_, ?_⟩, ?_, ?_⟩
       rotate_right 1
       · (repeat' (first | ((with_reducible refine body_intro ?_); (first | ((with_reducible refine seq_intro ?_ (fun Kv hN hX hR => ?_)); (next => exact rfl)) | ((with_reducible refine join_intro ?_ ?_); (next => exact rfl)) | (conv => whnf))) | with_reducible refine body_stop (fun Kv hN hX hR => ?_) | with_reducible refine Stop.mk ?_ | with_reducible refine Join.mk ⟨fun Kv hN hX hR => ?_, ?_⟩ | with_reducible refine DrawJ.each ?_ | with_reducible exact SubJ.self _ | with_reducible refine SubJ.of ?_ | with_reducible refine fill2_step (fun Kf hF => ?_) | with_reducible refine fill2_nil ?_ | with_reducible refine node2_step (fun Kg hG => ?_) | (with_reducible refine hF _ _ ?_; clear hF; clear Kf) | (with_reducible refine hG _ _ _ _ ?_; clear hG; clear Kg) | ((with_reducible refine seq_intro ?_ (fun Kv hN hX hR => ?_)); (next => exact rfl)) | ((with_reducible refine join_intro ?_ ?_); (next => exact rfl)) | (with_reducible refine hN _ ?_; (try (clear hG; clear Kg)); clear hN hX hR; clear Kv) | (with_reducible refine hX _ _ ?_; (try (clear hG; clear Kg)); clear hN hX hR; clear Kv) | (with_reducible refine hR _ ?_; (try (clear hG; clear Kg)); clear hN hX hR; clear Kv) | ((conv => whnf); first | with_reducible rfl | with_reducible exact True.intro | with_reducible intro _ | with_reducible refine And.intro ?_ ?_ | (with_reducible refine hN _ ?_; (try (clear hG; clear Kg)); clear hN hX hR; clear Kv) | (with_reducible refine hX _ _ ?_; (try (clear hG; clear Kg)); clear hN hX hR; clear Kv) | (with_reducible refine hR _ ?_; (try (clear hG; clear Kg)); clear hN hX hR; clear Kv) | with_reducible refine body_stop (fun Kv hN hX hR => ?_) | with_reducible refine Stop.mk ?_ | with_reducible refine Join.mk ⟨fun Kv hN hX hR => ?_, ?_⟩ | with_reducible refine DrawJ.each ?_ | with_reducible exact SubJ.self _ | with_reducible refine SubJ.of ?_ | with_reducible refine fill2_step (fun Kf hF => ?_) | with_reducible refine fill2_nil ?_ | with_reducible refine node2_step (fun Kg hG => ?_) | (with_reducible refine hF _ _ ?_; clear hF; clear Kf) | (with_reducible refine hG _ _ _ _ ?_; clear hG; clear Kg)))); all_goals (conv => whnf); all_goals (repeat ((try (clear hG; clear Kg)); clear hN hX hR; clear Kv))
         all_goals first
           | exact hd
           | rfl
       show (_ && nodeB _) = false
       simp only [hd] at *
       first
         | decide
         | (refine (Bool.true_and _).trans (bad_log ?_)
            show 64 < (List.replicate _ _).length
            rw [List.length_replicate, wrapI (by omega) (by omega)]
            omega)
         | trace_state)
    | (rintro ⟨zu, ⟨zi, zp, zq⟩, zr, zt⟩ hn
       have hn : (zu && nodeB ⟨zu, ⟨zi, zp, zq⟩, zr, zt⟩) = false := hn
       have ht := tickN_no (x := ⟨zu, ⟨zi, zp, zq⟩, zr, zt⟩) hn
       (repeat' (first | ((with_reducible refine body_intro ?_); (first | ((with_reducible refine seq_intro ?_ (fun Kv hN hX hR => ?_)); (next => exact rfl)) | ((with_reducible refine join_intro ?_ ?_); (next => exact rfl)) | (conv => whnf))) | with_reducible refine body_stop (fun Kv hN hX hR => ?_) | with_reducible refine Stop.mk ?_ | with_reducible refine Join.mk ⟨fun Kv hN hX hR => ?_, ?_⟩ | with_reducible refine DrawJ.each ?_ | with_reducible exact SubJ.self _ | with_reducible refine SubJ.of ?_ | with_reducible refine fill2_step (fun Kf hF => ?_) | with_reducible refine fill2_nil ?_ | with_reducible refine node2_step (fun Kg hG => ?_) | (with_reducible refine hF _ _ ?_; clear hF; clear Kf) | (with_reducible refine hG _ _ _ _ ?_; clear hG; clear Kg) | ((with_reducible refine seq_intro ?_ (fun Kv hN hX hR => ?_)); (next => exact rfl)) | ((with_reducible refine join_intro ?_ ?_); (next => exact rfl)) | (with_reducible refine hN _ ?_; (try (clear hG; clear Kg)); clear hN hX hR; clear Kv) | (with_reducible refine hX _ _ ?_; (try (clear hG; clear Kg)); clear hN hX hR; clear Kv) | (with_reducible refine hR _ ?_; (try (clear hG; clear Kg)); clear hN hX hR; clear Kv) | ((conv => whnf); first | with_reducible rfl | with_reducible exact True.intro | with_reducible intro _ | with_reducible refine And.intro ?_ ?_ | (with_reducible refine hN _ ?_; (try (clear hG; clear Kg)); clear hN hX hR; clear Kv) | (with_reducible refine hX _ _ ?_; (try (clear hG; clear Kg)); clear hN hX hR; clear Kv) | (with_reducible refine hR _ ?_; (try (clear hG; clear Kg)); clear hN hX hR; clear Kv) | with_reducible refine body_stop (fun Kv hN hX hR => ?_) | with_reducible refine Stop.mk ?_ | with_reducible refine Join.mk ⟨fun Kv hN hX hR => ?_, ?_⟩ | with_reducible refine DrawJ.each ?_ | with_reducible exact SubJ.self _ | with_reducible refine SubJ.of ?_ | with_reducible refine fill2_step (fun Kf hF => ?_) | with_reducible refine fill2_nil ?_ | with_reducible refine node2_step (fun Kg hG => ?_) | (with_reducible refine hF _ _ ?_; clear hF; clear Kf) | (with_reducible refine hG _ _ _ _ ?_; clear hG; clear Kg)))); all_goals (conv => whnf); all_goals (repeat ((try (clear hG; clear Kg)); clear hN hX hR; clear Kv))
       all_goals (try simp only [ht] at *)
       all_goals first
         | rfl
         | (exfalso; rename_i h; revert h; decide)
         | trace_state)
    | trace_state
theorem tw_view {p q m : Int} (hp : placeB p = true) (hq : placeB q = true) (hne : p ≠ q) (h0 : 0 ≤ m) (h3 : m < 3) : viewB ⟨p, [⟨q, m⟩], []⟩ = true := by
  have hf : 0 < farI p q := by
    rw [placeB_iff] at hp hq
    rw [farI_eq hp.1 (by omega) hq.1 (by omega)]
    omega
  simp [viewB, peersB, peerB, passB, hp, hq, hf, h0, h3]
theorem tw_pass {p q : Int} (hp : placeB p = true) (hq : placeB q = true) (hne : p ≠ q) : viewB ⟨p, [], [q]⟩ = true := by
  simp [viewB, peersB, peerB, passB, hp, hq, oddV, hasP, hne.symm]
theorem tw_with {q : Int} (hq : placeB q = true) : (withP [] q).1 = [q] := by
  rw [withP_def, if_pos ⟨rfl, hq⟩, if_neg (by simp [hasI]), if_neg (by simp)]
  simp [insP]
theorem tw_node {p q m : Int} (hp : placeB p = true) (hq : placeB q = true) (hne : p ≠ q) (h0 : 0 ≤ m) (h3 : m < 3) : (true && nodeB ⟨true, ⟨p, [⟨q, m⟩], []⟩, [], []⟩) = true := by
  have := tw_view hp hq hne h0 h3
  simp [nodeB, this, storeB]
theorem tw_nodeP {p q : Int} (hp : placeB p = true) (hq : placeB q = true) (hne : p ≠ q) : (true && nodeB ⟨true, ⟨p, [], [q]⟩, [], []⟩) = true := by
  have := tw_pass hp hq hne
  simp [nodeB, this, storeB]
def hello1 (p q : Int) (l : List Int) : GMsg := ⟨0, p, q, l, 0, ⟨0, ⟨0, 0⟩, 0, false⟩, false⟩
theorem tw_stay {p q m : Int} (hp : placeB p = true) (hq : placeB q = true) (hne : p ≠ q) (h0 : 0 ≤ m) (h3 : m < 2) : tickN ⟨true, ⟨p, [⟨q, m⟩], []⟩, [], []⟩ = (⟨true, ⟨p, [⟨q, m + 1⟩], []⟩, [], []⟩, [hello1 p q [q]], 0) := by
  rw [(tickN_yes (x := ⟨true, ⟨p, [⟨q, m⟩], []⟩, [], []⟩) (tw_node hp hq hne h0 (by omega))).1, tickV_yes (tw_view hp hq hne h0 (by omega))]
  simp [leftP, lostP, foldW, namesP, helloL, shareL, hello1, show ¬ m + 1 = 3 by omega]
theorem tw_lost {p q : Int} (hp : placeB p = true) (hq : placeB q = true) (hne : p ≠ q) : tickN ⟨true, ⟨p, [⟨q, 2⟩], []⟩, [], []⟩ = (⟨true, ⟨p, [], [q]⟩, [], []⟩, [hello1 p q []], 0) := by
  rw [(tickN_yes (x := ⟨true, ⟨p, [⟨q, 2⟩], []⟩, [], []⟩) (tw_node hp hq hne (by omega) (by omega))).1, tickV_yes (tw_view hp hq hne (by omega) (by omega))]
  simp [leftP, lostP, foldW, namesP, helloL, shareL, hello1, tw_with hq]
theorem tw_gone {p q : Int} (hp : placeB p = true) (hq : placeB q = true) (hne : p ≠ q) : tickN ⟨true, ⟨p, [], [q]⟩, [], []⟩ = (⟨true, ⟨p, [], [q]⟩, [], []⟩, [hello1 p q []], 0) := by
  rw [(tickN_yes (x := ⟨true, ⟨p, [], [q]⟩, [], []⟩) (tw_nodeP hp hq hne)).1, tickV_yes (tw_pass hp hq hne)]
  simp [leftP, lostP, foldW, namesP, helloL, shareL, hello1]
theorem tw_sum (a b : Nat) (h : a + b = 1) : decide (IntKind.i64.wrap ((a : Int) + (b : Int)) = 1) = true := by
  rw [wrapI (by omega) (by omega)]
  exact decide_eq_true (by omega)
set_option maxHeartbeats 4000000 in
theorem k_TickTwice : Known Try.prog tau 6 (S3 dInt dInt dInt fun a b m => okB true) := by
  refine known3 hmix tau_ok (ctx_cons k_awake19 (ctx_cons k_node19 (ctx_cons k_Num (ctx_cons k_tickStep ctx_nil)))) (fn := Try.f6) (by kernel_rfl) [] (by kernel_rfl) _ _ _ _ fun a b m hfit => ⟨rfl, [], ?_⟩
  clear hfit
  have hp : placeB (bits .and .i64 a 255) = true := by rw [placeB_iff, and255]; omega
  have hq : placeB (bits .and .i64 b 255) = true := by rw [placeB_iff, and255]; omega
  obtain ⟨h1, h2, h3⟩ := umod m 3 (by omega) (by omega)
  have a1 := tw_stay (p := bits .and .i64 a 255) (q := bits .and .i64 b 255) (m := 0) hp hq
  have a2 := tw_stay (p := bits .and .i64 a 255) (q := bits .and .i64 b 255) (m := 1) hp hq
  have a3 := tw_lost (p := bits .and .i64 a 255) (q := bits .and .i64 b 255) hp hq
  have a4 := tw_gone (p := bits .and .i64 a 255) (q := bits .and .i64 b 255) hp hq
  have hl : decide ((n19.items.length : Int) = 3) = true := by decide
  (repeat' (first | ((with_reducible refine body_intro ?_); (first | ((with_reducible refine seq_intro ?_ (fun Kv hN hX hR => ?_)); (next => exact rfl)) | ((with_reducible refine join_intro ?_ ?_); (next => exact rfl)) | (conv => whnf))) | with_reducible refine body_stop (fun Kv hN hX hR => ?_) | with_reducible refine Stop.mk ?_ | with_reducible refine Join.mk ⟨fun Kv hN hX hR => ?_, ?_⟩ | with_reducible refine DrawJ.each ?_ | with_reducible exact SubJ.self _ | with_reducible refine SubJ.of ?_ | with_reducible refine fill2_step (fun Kf hF => ?_) | with_reducible refine fill2_nil ?_ | with_reducible refine node2_step (fun Kg hG => ?_) | (with_reducible refine hF _ _ ?_; clear hF; clear Kf) | (with_reducible refine hG _ _ _ _ ?_; clear hG; clear Kg) | ((with_reducible refine seq_intro ?_ (fun Kv hN hX hR => ?_)); (next => exact rfl)) | ((with_reducible refine join_intro ?_ ?_); (next => exact rfl)) | (with_reducible refine hN _ ?_; (try (clear hG; clear Kg)); clear hN hX hR; clear Kv) | (with_reducible refine hX _ _ ?_; (try (clear hG; clear Kg)); clear hN hX hR; clear Kv) | (with_reducible refine hR _ ?_; (try (clear hG; clear Kg)); clear hN hX hR; clear Kv) | ((conv => whnf); first | with_reducible rfl | with_reducible exact True.intro | with_reducible intro _ | with_reducible refine And.intro ?_ ?_ | (with_reducible refine hN _ ?_; (try (clear hG; clear Kg)); clear hN hX hR; clear Kv) | (with_reducible refine hX _ _ ?_; (try (clear hG; clear Kg)); clear hN hX hR; clear Kv) | (with_reducible refine hR _ ?_; (try (clear hG; clear Kg)); clear hN hX hR; clear Kv) | with_reducible refine body_stop (fun Kv hN hX hR => ?_) | with_reducible refine Stop.mk ?_ | with_reducible refine Join.mk ⟨fun Kv hN hX hR => ?_, ?_⟩ | with_reducible refine DrawJ.each ?_ | with_reducible exact SubJ.self _ | with_reducible refine SubJ.of ?_ | with_reducible refine fill2_step (fun Kf hF => ?_) | with_reducible refine fill2_nil ?_ | with_reducible refine node2_step (fun Kg hG => ?_) | (with_reducible refine hF _ _ ?_; clear hF; clear Kf) | (with_reducible refine hG _ _ _ _ ?_; clear hG; clear Kg)))); all_goals (conv => whnf); all_goals (repeat ((try (clear hG; clear Kg)); clear hN hX hR; clear Kv))
  all_goals first
    | exact absurd (show (!true) = true by with_reducible assumption) (by decide)
    | exact Ob.mk (by decide)
    | (have hne := of_decide_eq_false (show decide (bits .and .i64 a 255 = bits .and .i64 b 255) = false by with_reducible assumption)
       have b1 := a1 hne (by omega) (by omega)
       have b2 := a2 hne (by omega) (by omega)
       have b3 := a3 hne
       have b4 := a4 hne
       have ht : IntKind.i64.wrap ((IntKind.u64.wrap m).tmod 3) = 0 ∨ IntKind.i64.wrap ((IntKind.u64.wrap m).tmod 3) = 1 ∨ IntKind.i64.wrap ((IntKind.u64.wrap m).tmod 3) = 2 := by omega
       clear a1 a2 a3 a4 h1 h2 h3
       rcases ht with ht | ht | ht
       all_goals
         simp only [ht, b1, b2, b3, b4, show (0 : Int) + 1 = 1 from rfl, show (1 : Int) + 1 = 2 from rfl] at *
       all_goals first
         | done
         | exact Ob.mk ⟨by decide, by simp⟩
         | exact hl
         | rfl
         | (exfalso
            rename_i h
            revert h
            simp only [List.length_cons, List.length_nil]
            decide)
         | (simp_all [hello1]; done)
         | (rename_i h
            exact absurd (h.symm.trans (tw_sum _ _ rfl)) Bool.false_ne_true)
         | trace_state)
    | trace_state
end Go.Proofs.Ytmhieddhmebfhaa
